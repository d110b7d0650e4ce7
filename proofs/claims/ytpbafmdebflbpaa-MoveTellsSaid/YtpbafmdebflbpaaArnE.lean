/- arena: the reference's Fields and ArenaCheck. -/
import Derived.Test.YtpbafmdebflbpaaArnD
namespace Go.Proofs.Ytpbafmdebflbpaa
open Go.RowKit Go.Maps

theorem parse_mem (f : Nat) : ∀ (ws : List Int) (a : Nat) (p : Nat × Nat), (∀ x ∈ ws, 0 ≤ x) → p ∈ (parse f ws a).1 → p.1 < ws.length ∧ unheadOK (ws.getD p.1 0) ∧ hLen (ws.getD p.1 0) = (p.2 : Int) ∧ p.1 + 1 + p.2 ≤ ws.length := by
  induction f with
  | zero => intro ws a p _ h; simp [parse] at h
  | succ f ih =>
    intro ws a p hw h
    unfold parse at h
    split at h
    · rename_i h1
      split at h
      · rename_i h2
        rcases List.mem_cons.1 h with rfl | h3
        · have h0 : 0 ≤ hLen (ws.getD a 0) := by unfold hLen; omega
          dsimp only
          exact ⟨h1, h2.1, by omega, by have := h2.2; omega⟩
        · exact ih ws _ p hw h3
      · simp at h
    · simp at h

set_option maxRecDepth 100000 in
set_option maxHeartbeats 4000000 in
theorem refFields_any (w : World) (Aw : Option Addr) (nw cw at_ len : Nat) (ws : List Int) (hW : WsIn w Aw nw cw ws) (hn : nw ≤ 256) (hok : unheadOK (ws.getD at_ 0)) (hlen : hLen (ws.getD at_ 0) = (len : Int)) (hl : at_ + 1 + len ≤ nw) :
    Calls Try.prog 66 #[.slice Aw nw cw, .int .i64 at_] w fun e w' => ∃ (A : Option Addr) (c : Nat),
      e = .returned (.slice A len c) ∧ Sep No w w' [rowI 24 1 A len c (u64s ((ws.drop (at_ + 1)).take len))] := by
  have HWL := hide hW.len
  have hws := hW.wf
  have hw0 := hW.rd
  have hlt : at_ < nw := by omega
  have hkl : at_ < ws.length := by rw [HWL.out]; exact hlt
  obtain ⟨ad, hA, _, had, hc⟩ := hw0.at_ hlt
  have e0 := hc (.int .u64 ws[at_]) (by simp [u64s, List.getElem?_eq_getElem hkl])
  have hb := hws _ (List.getElem_mem hkl)
  have hgd : ws.getD at_ 0 = ws[at_] := by rw [List.getD_eq_getElem?_getD, List.getElem?_eq_getElem hkl]; rfl
  obtain ⟨x, hx⟩ : ∃ x, ws[at_] = x := ⟨_, rfl⟩
  rw [hgd, hx] at hok hlen
  rw [hx] at e0 hb
  obtain ⟨b1, b2⟩ := hb
  subst hA
  have C := fun w' => unheadR_ok w' x b1 b2 hok
  rw [hlen] at C
  have C1 := hide C
  have hl4 : len ≤ 4 := by have := hok.1; omega
  clear C hlen hok hc hgd hx
  go_enter Try.func66, Try.ntmps66
  go_wp2_with fail
  refine (C1.out _).mono ?_
  rintro e w1 ⟨rfl, hb1⟩
  have hS1 := (((Sep.nil No w).below hb1).blkAt 23 #[.int .i64 len, .bool (hMark x), .int .i64 (hAge x)] rfl).nilRow0 24 1
  have HS1 := hide hS1
  clear hS1
  go_wp2_with fail
  go_loopw [7, 8] (fun s7 i wr => ∃ (k : Nat) (A : Option Addr) (c : Nat), k ≤ len ∧ i = .int .i64 ((k + 1 : Nat) : Int) ∧ s7 = .slice A k c ∧ Sep No w wr [rowI 24 1 A k c (u64s ((ws.drop (at_ + 1)).take k)), blkI w1.heap.size 23 #[.int .i64 len, .bool (hMark x), .int .i64 (hAge x)]]) (fun _ i _ => len + 1 - (intOf i).toNat)
  case atStart => exact ⟨0, none, 0, by omega, rfl, rfl, by simpa [u64s] using HS1.out⟩
  case round =>
    clear HS1
    obtain ⟨k, A, c, hk, rfl, rfl, hS⟩ := hrel
    obtain ⟨q1, q2, q3, q4⟩ := hS.rules 1 (g := w1.heap.size) (t := 23) rfl
    have q5 : wr.cell? ⟨w1.heap.size, 0, none⟩ = some (.int .i64 len) := by rw [q1]; rfl
    clear q1
    by_cases hlk : k < len
    · obtain ⟨j, hj⟩ : ∃ j, j = at_ + (k + 1) := ⟨_, rfl⟩
      have hjl : j < ws.length := by rw [HWL.out]; omega
      have hjn : j < nw := by omega
      obtain ⟨ad2, hA2, _, had2, hc2⟩ := (hw0.below hS.below_).at_ hjn
      injection hA2 with hA2
      subst hA2
      have e1 := hc2 (.int .u64 ws[j]) (by simp [u64s, List.getElem?_eq_getElem hjl])
      have HT := hide (show (ws.drop (at_ + 1)).take (k + 1) = (ws.drop (at_ + 1)).take k ++ [ws[j]] from by
        rw [List.take_succ_eq_append_getElem (by rw [List.length_drop]; omega), List.getElem_drop]
        congr 3
        omega)
      obtain ⟨y, hy⟩ : ∃ y, ws[j] = y := ⟨_, rfl⟩
      rw [hy] at e1 HT
      have e1' : wr.cell? (ad.add (at_ + (k + 1))) = some (.int .u64 y) := by rw [← hj]; exact e1
      have hjn' : at_ + (k + 1) < nw := by omega
      clear e1 hjn
      clear hc2 hy hjl hj
      go_wp2_with (first
        | (at_builtin
           refine wpList_app1 (cs := #[.int .u64 y]) rfl (.tmp 23) (.tmp 30) 53 rfl sWord hS 0 (n := k) rfl rfl rfl (by simp) rfl rfl (by omega) ?_
           intro A4 c4 w4 hS4 hC4))
      go_roundw
      case rel => exact ⟨k + 1, A4, c4, by omega, by go_num, rfl, by rw [HT.out, u64s_snoc]; exact hS4⟩
      case measure => simp [intOf]; omega
    · obtain rfl : k = len := by omega
      have hS' := hS.sub (l := [rowI 24 1 A k c (u64s ((ws.drop (at_ + 1)).take k))]) (by simp)
      go_wp2_with fail
      go_ret
      exact ⟨A, c, rfl, hS'⟩
end Go.Proofs.Ytpbafmdebflbpaa
