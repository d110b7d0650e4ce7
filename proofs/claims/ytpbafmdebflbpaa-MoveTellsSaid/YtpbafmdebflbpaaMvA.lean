/- move: arena.Ref, arena.Fields of words in given blocks, mover.move. -/
import Derived.Maps.OwnOps
import Derived.Maps.OwnSet
import Derived.Test.YtpbafmdebflbpaaMvP
namespace Go.Proofs.Ytpbafmdebflbpaa
open Go.RowKit Go.Maps

/-- A map from places to places, of the call's own. -/
def mapJ (b n : Nat) (D : DataW Unit) : Item where
  fp k := k = b
  P w := w.ownsMap Try.prog 3 (plainElem Try.prog 3) b n D
  dom w h k hk := by subst hk; exact World.ownsMap.lt h
  loc w w' _ hk h := by obtain ⟨es, clock, hb, r⟩ := h; exact ⟨es, clock, (hk b rfl).trans hb, r⟩

set_option maxRecDepth 100000 in
theorem Sep.mapUpd {F : Nat → Prop} {W w : World} {items : List Item} (hS : Sep F W w items) (k : Nat) {b n : Nat} {D : DataW Unit} (hk : items[k]? = some (mapJ b n D)) (hn : n < maxLen) (y z : Int) (hy : (Lit.int .i64 y).wf = true) (hz : (Lit.int .i64 z).wf = true) :
    ∃ w', (Instr.mapUpdate 117 (.map (some b)) (.int .i64 y) (.int .i64 z)).run Try.prog w = .ok () w' ∧ Sep F W w' (items.set k (mapJ b (n + 1) (D.put (.int .i64 y) (.lit (.int .i64 z))))) := by
  have hown : w.ownsMap Try.prog 3 (plainElem Try.prog 3) b n D := hS.get k hk
  obtain ⟨w', hrun, r1, r2⟩ := hown.update (int_keyed Try.underlying3) Try.underlying117 hn (keyOf_int_mk Try.underlying3 hy) (plainElem_int Try.underlying3 hz)
  exact ⟨w', hrun, hS.step k hk ((Chg.of_grown r2).mono (fun g hx => .inl (by injection hx with hx; exact hx.symm))) (mapJ b (n + 1) (D.put (.int .i64 y) (.lit (.int .i64 z)))) r1 (fun g hg => .inl hg)⟩


set_option maxRecDepth 100000 in
theorem step_mapUpd {w : World} {ops : Array Oper} {o : Oper} {a : Act} {K : Act → World → Prop} {Q : Exit → Act → World → Prop} {E : Prop} (hgd : o.guard = none) (m x v : Operand) (hop : o.op = Op.mapUpdate 117 m x v)
    {F : Nat → Prop} {W : World} {items : List Item} (hS : Sep F W w items) (k : Nat) {b n : Nat} {D : DataW Unit} (hk : items[k]? = some (mapJ b n D)) (hn : n < maxLen) (y z : Int) (hm : a.eval m = .map (some b)) (hx : a.eval x = .int .i64 y) (hv : a.eval v = .int .i64 z)
    (hy : (Lit.int .i64 y).wf = true) (hz : (Lit.int .i64 z).wf = true) (h : ∀ w', Sep F W w' (items.set k (mapJ b (n + 1) (D.put (.int .i64 y) (.lit (.int .i64 z))))) → K (a.put o.dst undef) w') :
    if Region.wanted o (yielded ops a.tmps) = true then Oper.wp Try.prog o a w K Q else E := by
  have hw : Region.wanted o (yielded ops a.tmps) = true := by simp [Region.wanted, hgd]
  rw [if_pos hw]
  obtain ⟨w', hrun, hS'⟩ := hS.mapUpd k hk hn y z hy hz
  unfold Oper.wp
  simp [execOp, hop, hm, hx, hv, hrun, Result.andThen]
  exact h w' hS'

set_option maxHeartbeats 400000 in
theorem ref_ref (w : World) (x : Int) (h1 : 0 ≤ x) (h2 : x ≤ 18446744073709551615) (h3 : x % 2 = 0) :
    Calls Try.prog 83 #[.int .u64 x] w fun e w' => e = .returned (.tuple #[.int .i64 (x / 2), .bool true]) ∧ w' = w := by
  have e0 := and1 x h1 h2
  rw [h3] at e0
  clear h3
  go_enter Try.func83, Try.ntmps83
  go_wp2
  go_ret2
  first | exact ⟨rfl, rfl⟩ | exact rfl
set_option maxHeartbeats 400000 in
theorem ref_num (w : World) (x : Int) (h1 : 0 ≤ x) (h2 : x ≤ 18446744073709551615) (h3 : x % 2 = 1) :
    Calls Try.prog 83 #[.int .u64 x] w fun e w' => e = .returned (.tuple #[.int .i64 (x / 2), .bool false]) ∧ w' = w := by
  have e0 := and1 x h1 h2
  rw [h3] at e0
  clear h3
  go_enter Try.func83, Try.ntmps83
  go_wp2
  go_ret2
  first | exact ⟨rfl, rfl⟩ | exact rfl

/-- Words that came in, in given blocks. -/
structure WsD (w : World) (D : Nat → Prop) (A : Option Addr) (n c : Nat) (ws : List Int) : Prop where
  rd : Rd w D 1 A n (u64s ws)
  cap : n ≤ c ∧ c ≤ 9223372036854775807
  nil : A = none → n = 0 ∧ c = 0
  wf : ∀ x ∈ ws, 0 ≤ x ∧ x ≤ 18446744073709551615
theorem WsD.in_ {w : World} {D : Nat → Prop} {A : Option Addr} {n c : Nat} {ws : List Int} (h : WsD w D A n c ws) : WsIn w A n c ws := ⟨h.rd.more (fun _ _ _ => trivial), h.cap, h.nil, h.wf⟩
theorem WsD.below {w w' : World} {D : Nat → Prop} {A : Option Addr} {n c : Nat} {ws : List Int} (h : WsD w D A n c ws) (hb : Below w.heap.size w w') : WsD w' D A n c ws := ⟨h.rd.below hb, h.cap, h.nil, h.wf⟩
theorem WsD.chg {w w' : World} {D S : Nat → Prop} {A : Option Addr} {n c : Nat} {ws : List Int} (h : WsD w D A n c ws) (hc : Chg S w w') (hM : ∀ g, S g → ¬ D g) : WsD w' D A n c ws := ⟨h.rd.chg hc hM, h.cap, h.nil, h.wf⟩
theorem WsIn.d {w : World} {A : Option Addr} {n c : Nat} {ws : List Int} (h : WsIn w A n c ws) : WsD w (fun g => g < w.heap.size) A n c ws := ⟨h.rd.more (fun _ h _ => h), h.cap, h.nil, h.wf⟩

set_option maxRecDepth 100000 in
set_option maxHeartbeats 4000000 in
theorem fieldsD_any (w : World) (Dw : Nat → Prop) (Aw : Option Addr) (nw cw at_ len : Nat) (ws : List Int) (hW : WsD w Dw Aw nw cw ws) (hn : nw ≤ 256) (hok : unheadOK (ws.getD at_ 0)) (hlen : hLen (ws.getD at_ 0) = (len : Int)) (hl : at_ + 1 + len ≤ nw) :
    Calls Try.prog 79 #[.slice Aw nw cw, .int .i64 at_] w fun e w' => ∃ (A : Option Addr) (c : Nat),
      e = .returned (.slice A len c) ∧ Below w.heap.size w w' ∧ Rd w Dw 1 A len (u64s ((ws.drop (at_ + 1)).take len)) := by
  have HWL := hide hW.in_.len
  have hcap := hW.cap
  have hlt : at_ < nw := by omega
  have hkl : at_ < ws.length := by rw [HWL.out]; exact hlt
  obtain ⟨ad, hA, _, had, hc⟩ := hW.rd.at_ hlt
  have e0 := hc (.int .u64 ws[at_]) (by simp [u64s, List.getElem?_eq_getElem hkl])
  have hb := hW.wf _ (List.getElem_mem hkl)
  have hgd : ws.getD at_ 0 = ws[at_] := by rw [List.getD_eq_getElem?_getD, List.getElem?_eq_getElem hkl]; rfl
  obtain ⟨x, hx⟩ : ∃ x, ws[at_] = x := ⟨_, rfl⟩
  rw [hgd, hx] at hok hlen
  rw [hx] at e0 hb
  obtain ⟨b1, b2⟩ := hb
  subst hA
  have C := fun w' => unheadP_ok w' x b1 b2 hok
  rw [hlen] at C
  have C1 := hide C
  have hl4 : len ≤ 4 := by have := hok.1; omega
  have HR : Rd w Dw 1 (if cw = at_ + 1 then some ad else some (ad.add (at_ + 1))) len (u64s ((ws.drop (at_ + 1)).take len)) := by
    have h6 := (hW.rd.cut (k := at_ + 1) (cap := cw) (by omega) hcap.1).take (k := len) (by omega)
    have e6 : ((u64s ws).drop ((at_ + 1) * 1)).take (len * 1) = u64s ((ws.drop (at_ + 1)).take len) := by
      rw [Nat.mul_one, Nat.mul_one]
      unfold u64s; rw [List.map_take, List.map_drop]
    rw [e6, Nat.mul_one] at h6
    exact h6
  have HRH := hide HR
  obtain ⟨hc1, hc2⟩ := hcap
  clear C hlen hok hc hgd hx HR hW
  go_enter Try.func79, Try.ntmps79
  go_wp2_with fail
  refine (C1.out _).mono ?_
  rintro e w1 ⟨rfl, hb1⟩
  have hz := hb1.size
  by_cases hcc : cw = at_ + 1
  · have h7 := HRH.out
    rw [if_pos hcc] at h7
    have H7 := hide h7
    have hl0 : len = 0 := by omega
    subst hl0
    clear h7 HRH
    go_wp2_with fail
    go_ret
    exact ⟨some ad, 0, rfl, hb1.alloc hz _, H7.out⟩
  · have h7 := HRH.out
    rw [if_neg hcc, show ad.add (at_ + 1) = ⟨ad.block, ad.off + (at_ + 1), none⟩ from by simp [Addr.add]] at h7
    have H7 := hide h7
    have H8 := hide (show at_ + 1 + len - (at_ + 1) = len by omega)
    clear h7 HRH
    go_wp2_with fail
    go_ret
    exact ⟨_, cw - (at_ + 1), Eq.trans (b := Ending.returned (.slice (some ⟨ad.block, ad.off + (at_ + 1), none⟩) (at_ + 1 + len - (at_ + 1)) (cw - (at_ + 1)))) rfl (by rw [H8.out]), hb1.alloc hz _, H7.out⟩
end Go.Proofs.Ytpbafmdebflbpaa
