/- arena: the reference's Starts and Fields. -/
import Derived.Test.YtpbafmdebflbpaaArnC
namespace Go.Proofs.Ytpbafmdebflbpaa
open Go.RowKit Go.Maps

def placesOf (l : List (Nat × Nat)) : List Int := l.map fun p => (p.1 : Int)
theorem placesOf_snoc (l : List (Nat × Nat)) (p : Nat × Nat) : placesOf (l ++ [p]) = placesOf l ++ [(p.1 : Int)] := by simp [placesOf]
theorem ints_snoc2 (l : List Int) (x : Int) : ints (l ++ [x]) = ints l ++ [.int .i64 x] := by simp [ints]
def startsOf (nW : Nat) (ws : List Int) : List Int := if (parse nW ws 0).2 = true then placesOf (parse nW ws 0).1 else []

set_option maxRecDepth 100000 in
set_option maxHeartbeats 4000000 in
theorem refStarts_any (w : World) (Aw : Option Addr) (nw cw : Nat) (ws : List Int) (hW : WsIn w Aw nw cw ws) (hn : nw ≤ 256) :
    Calls Try.prog 40 #[.slice Aw nw cw] w fun e w' => ∃ (A : Option Addr) (n c : Nat),
      e = .returned (.tuple #[.slice A n c, .bool (parse nw ws 0).2]) ∧ n ≤ 256 ∧ Sep No w w' [rowI 3 1 A n c (ints (startsOf nw ws))] := by
  have HWL := hide hW.len
  have hws := hW.wf
  have hw0 := hW.rd
  have HS0 := hide ((Sep.nil No w).nilRow 3 1)
  clear hW
  go_enter Try.func40, Try.ntmps40
  go_wp2_with fail
  go_loopw [4, 5] (fun s4 i wr => ∃ (at_ f m : Nat) (pre : List (Nat × Nat)) (A : Option Addr) (c : Nat), at_ ≤ nw ∧ i = .int .i64 at_ ∧ s4 = .slice A m c ∧ Hid (parse nw ws 0 = (pre ++ (parse f ws at_).1, (parse f ws at_).2)) ∧ nw ≤ f + at_ ∧ m ≤ at_ ∧
    Sep No w wr [rowI 3 1 A m c (ints (placesOf pre))]) (fun _ i _ => nw - (intOf i).toNat)
  case atStart => exact ⟨0, nw, 0, [], none, 0, by omega, rfl, rfl, by simp [Hid], by omega, by omega, by simpa [placesOf] using HS0.out⟩
  case round =>
    clear HS0
    obtain ⟨at_, f, m, pre, A, c, hat, rfl, rfl, HP, hf, hml, hS⟩ := hrel
    by_cases hlt : at_ < nw
    · have hkl : at_ < ws.length := by rw [HWL.out]; exact hlt
      obtain ⟨ad, hA, _, had, hc⟩ := (hw0.below hS.below_).at_ hlt
      have e0 := hc (.int .u64 ws[at_]) (by simp [u64s, List.getElem?_eq_getElem hkl])
      have hb := hws _ (List.getElem_mem hkl)
      have hgd : ws.getD at_ 0 = ws[at_] := by rw [List.getD_eq_getElem?_getD, List.getElem?_eq_getElem hkl]; rfl
      have HGD := hide hgd
      obtain ⟨x, hx⟩ : ∃ x, ws[at_] = x := ⟨_, rfl⟩
      rw [hx] at e0 hb HGD
      obtain ⟨b1, b2⟩ := hb
      subst hA
      clear hc hx hgd
      by_cases hok : unheadOK x
      · obtain ⟨len, hlen⟩ := Int.eq_ofNat_of_zero_le (show 0 ≤ hLen x by unfold hLen; omega)
        have hl4 : len ≤ 4 := by have := hok.1; omega
        have HLEN := hide hlen
        have C := fun w' => unheadR_ok w' x b1 b2 hok
        rw [hlen] at C
        have C1 := hide C
        have HOK := hide hok
        clear C hlen hok
        go_wp2_with fail
        refine (C1.out _).mono ?_
        rintro e w1 ⟨rfl, hb1⟩
        have hS1 := (hS.below hb1).blkAt 23 #[.int .i64 len, .bool (hMark x), .int .i64 (hAge x)] rfl
        by_cases hl : at_ + 1 + len ≤ nw
        · have k1 : decide ((nw : Int) < at_ + 1 + len) = false := by simp; omega
          obtain ⟨f', hf', hps⟩ := parse_some (f := f) (len := len) hkl (by rw [HWL.out]; omega) (by rw [HGD.out]; exact HOK.out) (by rw [HGD.out]; exact HLEN.out) (by rw [HWL.out]; exact hl)
          have HPS := hide (show parse nw ws 0 = ((pre ++ [(at_, len)]) ++ (parse f' ws (at_ + 1 + len)).1, (parse f' ws (at_ + 1 + len)).2) by rw [HP.out, hps]; simp)
          have HF := hide hf'
          clear hS hps hf'
          go_wp2_with (first
            | (at_builtin
               refine wpList_app1 (cs := #[.int .i64 at_]) rfl (.tmp 32) (.tmp 34) 40 rfl sInt hS1 0 (n := m) rfl rfl rfl (by simp) rfl rfl (by omega) ?_
               intro A4 c4 w4 hS4 hC4
               (have q5 : w4.cell? ⟨w1.heap.size, 0, none⟩ = some (.int .i64 len) := by
                  obtain ⟨q1, _⟩ := hS4.rules 1 (g := w1.heap.size) (t := 23) rfl
                  rw [q1]; rfl)))
          have hS5 := hS4.sub (l := [rowI 3 1 A4 (m + 1) c4 (ints (placesOf pre) ++ [.int .i64 at_])]) (by simp)
          go_roundw
          case rel =>
            refine ⟨at_ + 1 + len, f', m + 1, pre ++ [(at_, len)], A4, c4, by omega, by go_num, rfl, HPS.out, ?_, by omega, ?_⟩
            · have h9 := HF.out; rw [HWL.out] at h9; exact h9
            · rw [placesOf_snoc, ints_snoc2]; exact hS5
          case measure => simp [intOf]; omega
        · have k1 : decide ((nw : Int) < at_ + 1 + len) = true := by simp; omega
          have hpn := parse_none (f := f) hkl (by rw [HWL.out]; omega) (by rw [HGD.out, HLEN.out, HWL.out]; omega)
          have HR := hide (show (parse nw ws 0).2 = false by rw [HP.out, hpn])
          have hS2 := ((hS1.sub (l := []) (by simp))).nilRow 3 1
          clear hS hpn
          go_wp2_with fail
          refine bodyPost_ret (v := .tuple #[.slice none 0 0, .bool false]) (by simp [results, Try.results40, go_sem]) rfl ⟨none, 0, 0, by rw [HR.out], by omega, ?_⟩
          rw [show startsOf nw ws = [] from if_neg (by rw [HR.out]; simp)]
          exact hS2
      · have C1 := hide (fun w' => unheadR_bad w' x b1 b2 hok)
        have hpn := parse_none (f := f) hkl (by rw [HWL.out]; omega) (by rw [HGD.out]; exact fun h => hok h.1)
        have HR := hide (show (parse nw ws 0).2 = false by rw [HP.out, hpn])
        clear hok hpn
        go_wp2_with fail
        refine (C1.out _).mono ?_
        rintro e w1 ⟨rfl, hb1⟩
        have hS1 := (hS.below hb1)
        go_wp2_with fail
        refine bodyPost_ret (v := .tuple #[.slice none 0 0, .bool false]) (by simp [results, Try.results40, go_sem]) rfl ⟨none, 0, 0, by rw [HR.out], by omega, ?_⟩
        rw [show startsOf nw ws = [] from if_neg (by rw [HR.out]; simp)]
        exact ((hS1.alloc _).sub (l := []) (by simp)).nilRow 3 1
    · obtain rfl : at_ = nw := by omega
      have hpe : parse f ws at_ = ([], true) := by have := parse_end (f := f) (ws := ws); rw [HWL.out] at this; exact this
      have HR := hide (show parse at_ ws 0 = (pre, true) by rw [HP.out, hpe]; simp)
      clear hpe
      go_wp2_with fail
      refine bodyPost_ret (v := .tuple #[.slice A m c, .bool true]) (by simp [results, Try.results40, go_sem]) rfl ⟨A, m, c, by rw [HR.out], by omega, ?_⟩
      rw [show startsOf at_ ws = placesOf pre from by unfold startsOf; rw [HR.out]; rfl]
      exact hS
end Go.Proofs.Ytpbafmdebflbpaa
