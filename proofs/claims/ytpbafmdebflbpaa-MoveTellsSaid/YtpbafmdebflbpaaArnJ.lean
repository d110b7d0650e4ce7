/- arena: the program's Fields. -/
import Derived.Test.YtpbafmdebflbpaaArnI
namespace Go.Proofs.Ytpbafmdebflbpaa
open Go.RowKit

set_option maxRecDepth 100000 in
set_option maxHeartbeats 4000000 in
theorem fields_any (w : World) (Aw : Option Addr) (nw cw at_ len : Nat) (ws : List Int) (hW : WsIn w Aw nw cw ws) (hn : nw ≤ 256) (hok : unheadOK (ws.getD at_ 0)) (hlen : hLen (ws.getD at_ 0) = (len : Int)) (hl : at_ + 1 + len ≤ nw) :
    Calls Try.prog 79 #[.slice Aw nw cw, .int .i64 at_] w fun e w' => ∃ (A : Option Addr) (c : Nat),
      e = .returned (.slice A len c) ∧ Below w.heap.size w w' ∧ Rd w (fun _ => True) 1 A len (u64s ((ws.drop (at_ + 1)).take len)) := by
  have HWL := hide hW.len
  have hcap := hW.cap
  have hlt : at_ < nw := by omega
  have hkl : at_ < ws.length := by rw [HWL.out]; exact hlt
  obtain ⟨ad, hA, _, had, hc⟩ := hW.rd.at_ hlt
  have e0 := hc (.int .u64 ws[at_]) (by simp [u64s, List.getElem?_eq_getElem hkl])
  have hb := hW.wf _ (List.getElem_mem hkl)
  have hgd : ws.getD at_ 0 = ws[at_] := by rw [List.getD_eq_getElem?_getD, List.getElem?_eq_getElem hkl]; rfl
  obtain ⟨x, hx⟩ : ∃ x, ws[at_] = x := ⟨_, rfl⟩
  rw [hgd, hx] at hok hlen
  rw [hx] at e0 hb
  obtain ⟨b1, b2⟩ := hb
  subst hA
  have C := fun w' => unheadP_ok w' x b1 b2 hok
  rw [hlen] at C
  have C1 := hide C
  have hl4 : len ≤ 4 := by have := hok.1; omega
  have HR : Rd w (fun _ => True) 1 (if cw = at_ + 1 then some ad else some (ad.add (at_ + 1))) len (u64s ((ws.drop (at_ + 1)).take len)) := by
    have h6 := (hW.rd.cut (k := at_ + 1) (cap := cw) (by omega) hcap.1).take (k := len) (by omega)
    have e6 : ((u64s ws).drop ((at_ + 1) * 1)).take (len * 1) = u64s ((ws.drop (at_ + 1)).take len) := by
      rw [Nat.mul_one, Nat.mul_one]
      unfold u64s; rw [List.map_take, List.map_drop]
    rw [e6, Nat.mul_one] at h6
    exact h6
  have HRH := hide HR
  obtain ⟨hc1, hc2⟩ := hcap
  clear C hlen hok hc hgd hx HR hW
  go_enter Try.func79, Try.ntmps79
  go_wp2_with fail
  refine (C1.out _).mono ?_
  rintro e w1 ⟨rfl, hb1⟩
  have hz := hb1.size
  by_cases hcc : cw = at_ + 1
  · have h7 := HRH.out
    rw [if_pos hcc] at h7
    have H7 := hide h7
    have hl0 : len = 0 := by omega
    subst hl0
    clear h7 HRH
    go_wp2_with fail
    go_ret
    exact ⟨some ad, 0, rfl, hb1.alloc hz _, H7.out⟩
  · have h7 := HRH.out
    rw [if_neg hcc, show ad.add (at_ + 1) = ⟨ad.block, ad.off + (at_ + 1), none⟩ from by simp [Addr.add]] at h7
    have H7 := hide h7
    have H8 := hide (show at_ + 1 + len - (at_ + 1) = len by omega)
    clear h7 HRH
    go_wp2_with fail
    go_ret
    exact ⟨_, cw - (at_ + 1), Eq.trans (b := Ending.returned (.slice (some ⟨ad.block, ad.off + (at_ + 1), none⟩) (at_ + 1 + len - (at_ + 1)) (cw - (at_ + 1)))) rfl (by rw [H8.out]), hb1.alloc hz _, H7.out⟩
end Go.Proofs.Ytpbafmdebflbpaa
