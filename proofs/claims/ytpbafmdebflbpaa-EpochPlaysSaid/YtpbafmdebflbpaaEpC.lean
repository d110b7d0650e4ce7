/- epoch: the first that is old. -/
import Derived.Test.YtpbafmdebflbpaaEpB
namespace Go.Proofs.Ytpbafmdebflbpaa
open Go.RowKit

/-- A row of what waits, and what the test has in hand. -/
def Ez.dr (s : Ez) (b b2 : Nat) (by_ : Int) (A : Option Addr) (n c : Nat) (ws : List (Int × Int)) : List Item := [rowI 134 2 A n c (fates ws), allI (s.dl b b2 by_)]

set_option maxHeartbeats 800000 in
theorem index_old (w : World) (s : Ez) (b b2 : Nat) (by_ : Int) (A : Option Addr) (n c : Nat) (ws : List (Int × Int)) (hs : (allI (s.dr b b2 by_ A n c ws)).P w) (he : 0 ≤ s.ep) (he2 : s.ep ≤ 1000) (hf : s.freed.length ≤ 10000) (hn : n ≤ 100) :
    Calls Try.prog 124 #[.slice A n c, .func (.func 106) #[] #[.pointer (some ⟨b, 0, none⟩), .pointer (some ⟨b2, 0, none⟩)]] w fun e w' =>
      ∃ (k : Nat) (Af : Option Addr) (nf cf : Nat), (∀ x ∈ ws.take k, eold s.ep x = false) ∧
        ((k = n ∧ e = .returned (.int .i64 (-1)) ∧ Sep (allI (s.dr b b2 by_ A n c ws)).fp w w' (Ez.dr { s with Af := Af, nf := nf, cf := cf } b b2 by_ A n c ws)) ∨
         (∃ x, ws[k]? = some x ∧ eold s.ep x = true ∧ e = .returned (.int .i64 k) ∧ Sep (allI (s.dr b b2 by_ A n c ws)).fp w w' (Ez.dr { s with Af := Af, nf := nf, cf := cf, freed := s.freed ++ [(x.1, by_)] } b b2 by_ A n c ws))) := by
  have hS0 := (Sep.start hs).flat
  have hl : ws.length = n := by have := (hS0.rd_ 0 rfl).1; rw [fates_length] at this; omega
  have HL := hide hl
  clear hl
  go_enter Try.func124, Try.ntmps124
  go_wp2_with fail
  go_loopw [5, 8] (fun _ i wr => ∃ (k : Nat) (Af : Option Addr) (nf cf : Nat), k ≤ n ∧ i = .int .i64 k ∧ Hid (∀ t ∈ ws.take k, eold s.ep t = false) ∧
      Sep (allI (s.dr b b2 by_ A n c ws)).fp w wr (Ez.dr { s with Af := Af, nf := nf, cf := cf } b b2 by_ A n c ws)) (fun _ i _ => n - (intOf i).toNat)
  case atStart => exact ⟨0, s.Af, s.nf, s.cf, by omega, rfl, by simp [Hid], hS0⟩
  case round =>
    obtain ⟨k, Af, nf, cf, hk, rfl, hnot, hS⟩ := hrel
    by_cases hlt : k < n
    · obtain ⟨ad, rfl, _, _, hc0, hc1⟩ := (hS.rd_ 0 (A := A) (n := n) (c := c) (xs := fates ws) (e := 134) (size := 2) rfl).atN hlt
      have hkl : k < ws.length := by rw [HL.out]; exact hlt
      have hcell0 := hc0 _ (fates_0 ws k hkl)
      have hcell1 := hc1 0 _ (fates_1 ws k hkl)
      have hP := hS.get 1 rfl
      clear hc0 hc1
      go_wp2_with fail
      refine (estep2_any _ { s with Af := Af, nf := nf, cf := cf } b b2 by_ ws[k].1 ws[k].2 hP he he2 hf).mono ?_
      rintro e w1 ⟨rfl, Af1, nf1, cf1, hS1⟩
      have hS2 := hS.call 1 rfl hS1
      cases hq : eold s.ep ws[k] with
      | true =>
        have HQ := hide hq
        have hq2 : eold s.ep (ws[k].1, ws[k].2) = true := hq
        rw [show egone s.ep by_ [(ws[k].1, ws[k].2)] = [(ws[k].1, by_)] by unfold egone; simp [hq2]] at hS2
        clear hq hcell0 hcell1 hS1 hP
        go_wp2_with fail
        go_ret
        exact ⟨k, Af1, nf1, cf1, hnot.out, .inr ⟨ws[k], List.getElem?_eq_getElem hkl, HQ.out, rfl, hS2⟩⟩
      | false =>
        have HQ := hide hq
        have hq2 : eold s.ep (ws[k].1, ws[k].2) = false := hq
        rw [show egone s.ep by_ [(ws[k].1, ws[k].2)] = [] by unfold egone; simp [hq2], List.append_nil] at hS2
        clear hq hcell0 hcell1 hS1 hP
        go_wp2_with fail
        go_roundw
        case rel => exact ⟨k + 1, Af1, nf1, cf1, by omega, by go_num, by
          have h1 := hnot.out
          have h2 := HQ.out
          show ∀ t ∈ ws.take (k + 1), eold s.ep t = false
          rw [List.take_succ_eq_append_getElem hkl]
          intro t ht
          rcases List.mem_append.1 ht with h3 | h3
          · exact h1 t h3
          · simp only [List.mem_singleton] at h3; subst h3; exact h2, hS2⟩
        case measure => simp [intOf]; omega
    · go_wp2_with fail
      go_ret
      obtain rfl : k = n := by omega
      exact ⟨k, Af, nf, cf, hnot.out, .inl ⟨rfl, rfl, hS⟩⟩
end Go.Proofs.Ytpbafmdebflbpaa
