/- move: arena.Ref, arena.Fields of words in given blocks, mover.move. move: mover.move, the easy cases. move: mover.move of an object that has not moved yet. -/
import Derived.Maps.OwnOps
import Derived.Maps.OwnSet
import Derived.Test.YtpbafmdebflbpaaGMarkTells11
set_option linter.unusedSimpArgs false
set_option linter.unusedVariables false
namespace Go.Proofs.Ytpbafmdebflbpaa
open Go.RowKit Go.Maps

/-- A map from places to places, of the call's own. -/
def mapJ (b n : Nat) (D : DataW Unit) : Item where
  fp k := k = b
  P w := w.ownsMap Try.prog 3 (plainElem Try.prog 3) b n D
  dom w h k hk := by subst hk; exact World.ownsMap.lt h
  loc w w' _ hk h := by obtain ⟨es, clock, hb, r⟩ := h; exact ⟨es, clock, (hk b rfl).trans hb, r⟩

set_option maxRecDepth 100000 in
theorem Sep.mapUpd {F : Nat → Prop} {W w : World} {items : List Item} (hS : Sep F W w items) (k : Nat) {b n : Nat} {D : DataW Unit} (hk : items[k]? = some (mapJ b n D)) (hn : n < maxLen) (y z : Int) (hy : (Lit.int .i64 y).wf = true) (hz : (Lit.int .i64 z).wf = true) :
    ∃ w', (Instr.mapUpdate 117 (.map (some b)) (.int .i64 y) (.int .i64 z)).run Try.prog w = .ok () w' ∧ Sep F W w' (items.set k (mapJ b (n + 1) (D.put (.int .i64 y) (.lit (.int .i64 z))))) := by
  have hown : w.ownsMap Try.prog 3 (plainElem Try.prog 3) b n D := hS.get k hk
  obtain ⟨w', hrun, r1, r2⟩ := hown.update (int_keyed Try.underlying3) Try.underlying117 hn (keyOf_int_mk Try.underlying3 hy) (plainElem_int Try.underlying3 hz)
  exact ⟨w', hrun, hS.step k hk ((Chg.of_grown r2).mono (fun g hx => .inl (by injection hx with hx; exact hx.symm))) (mapJ b (n + 1) (D.put (.int .i64 y) (.lit (.int .i64 z)))) r1 (fun g hg => .inl hg)⟩


set_option maxRecDepth 100000 in
theorem step_mapUpd {w : World} {ops : Array Oper} {o : Oper} {a : Act} {K : Act → World → Prop} {Q : Exit → Act → World → Prop} {E : Prop} (hgd : o.guard = none) (m x v : Operand) (hop : o.op = Op.mapUpdate 117 m x v)
    {F : Nat → Prop} {W : World} {items : List Item} (hS : Sep F W w items) (k : Nat) {b n : Nat} {D : DataW Unit} (hk : items[k]? = some (mapJ b n D)) (hn : n < maxLen) (y z : Int) (hm : a.eval m = .map (some b)) (hx : a.eval x = .int .i64 y) (hv : a.eval v = .int .i64 z)
    (hy : (Lit.int .i64 y).wf = true) (hz : (Lit.int .i64 z).wf = true) (h : ∀ w', Sep F W w' (items.set k (mapJ b (n + 1) (D.put (.int .i64 y) (.lit (.int .i64 z))))) → K (a.put o.dst undef) w') :
    if Region.wanted o (yielded ops a.tmps) = true then Oper.wp Try.prog o a w K Q else E := by
  have hw : Region.wanted o (yielded ops a.tmps) = true := by simp [Region.wanted, hgd]
  rw [if_pos hw]
  obtain ⟨w', hrun, hS'⟩ := hS.mapUpd k hk hn y z hy hz
  unfold Oper.wp
  simp [execOp, hop, hm, hx, hv, hrun, Result.andThen]
  exact h w' hS'

set_option maxHeartbeats 400000 in
theorem ref_ref (w : World) (x : Int) (h1 : 0 ≤ x) (h2 : x ≤ 18446744073709551615) (h3 : x % 2 = 0) :
    Calls Try.prog 83 #[.int .u64 x] w fun e w' => e = .returned (.tuple #[.int .i64 (x / 2), .bool true]) ∧ w' = w := by
  have e0 := and1 x h1 h2
  rw [h3] at e0
  clear h3
  go_enter Try.func83, Try.ntmps83
  go_wp2
  go_ret2
  first | exact ⟨rfl, rfl⟩ | exact rfl
set_option maxHeartbeats 400000 in
theorem ref_num (w : World) (x : Int) (h1 : 0 ≤ x) (h2 : x ≤ 18446744073709551615) (h3 : x % 2 = 1) :
    Calls Try.prog 83 #[.int .u64 x] w fun e w' => e = .returned (.tuple #[.int .i64 (x / 2), .bool false]) ∧ w' = w := by
  have e0 := and1 x h1 h2
  rw [h3] at e0
  clear h3
  go_enter Try.func83, Try.ntmps83
  go_wp2
  go_ret2
  first | exact ⟨rfl, rfl⟩ | exact rfl

/-- Words that came in, in given blocks. -/
structure WsD (w : World) (D : Nat → Prop) (A : Option Addr) (n c : Nat) (ws : List Int) : Prop where
  rd : Rd w D 1 A n (u64s ws)
  cap : n ≤ c ∧ c ≤ 9223372036854775807
  nil : A = none → n = 0 ∧ c = 0
  wf : ∀ x ∈ ws, 0 ≤ x ∧ x ≤ 18446744073709551615
theorem WsD.in_ {w : World} {D : Nat → Prop} {A : Option Addr} {n c : Nat} {ws : List Int} (h : WsD w D A n c ws) : WsIn w A n c ws := ⟨h.rd.more (fun _ _ _ => trivial), h.cap, h.nil, h.wf⟩
theorem WsD.below {w w' : World} {D : Nat → Prop} {A : Option Addr} {n c : Nat} {ws : List Int} (h : WsD w D A n c ws) (hb : Below w.heap.size w w') : WsD w' D A n c ws := ⟨h.rd.below hb, h.cap, h.nil, h.wf⟩
theorem WsD.chg {w w' : World} {D S : Nat → Prop} {A : Option Addr} {n c : Nat} {ws : List Int} (h : WsD w D A n c ws) (hc : Chg S w w') (hM : ∀ g, S g → ¬ D g) : WsD w' D A n c ws := ⟨h.rd.chg hc hM, h.cap, h.nil, h.wf⟩
theorem WsIn.d {w : World} {A : Option Addr} {n c : Nat} {ws : List Int} (h : WsIn w A n c ws) : WsD w (fun g => g < w.heap.size) A n c ws := ⟨h.rd.more (fun _ h _ => h), h.cap, h.nil, h.wf⟩

set_option maxRecDepth 100000 in
set_option maxHeartbeats 4000000 in
theorem fieldsD_any (w : World) (Dw : Nat → Prop) (Aw : Option Addr) (nw cw at_ len : Nat) (ws : List Int) (hW : WsD w Dw Aw nw cw ws) (hn : nw ≤ 256) (hok : unheadOK (ws.getD at_ 0)) (hlen : hLen (ws.getD at_ 0) = (len : Int)) (hl : at_ + 1 + len ≤ nw) :
    Calls Try.prog 79 #[.slice Aw nw cw, .int .i64 at_] w fun e w' => ∃ (A : Option Addr) (c : Nat),
      e = .returned (.slice A len c) ∧ Below w.heap.size w w' ∧ Rd w Dw 1 A len (u64s ((ws.drop (at_ + 1)).take len)) := by
  have HWL := hide hW.in_.len
  have hcap := hW.cap
  have hlt : at_ < nw := by omega
  have hkl : at_ < ws.length := by rw [HWL.out]; exact hlt
  obtain ⟨ad, hA, _, had, hc⟩ := hW.rd.at_ hlt
  have e0 := hc (.int .u64 ws[at_]) (by simp [u64s, List.getElem?_eq_getElem hkl])
  have hb := hW.wf _ (List.getElem_mem hkl)
  have hgd : ws.getD at_ 0 = ws[at_] := by rw [List.getD_eq_getElem?_getD, List.getElem?_eq_getElem hkl]; rfl
  obtain ⟨x, hx⟩ : ∃ x, ws[at_] = x := ⟨_, rfl⟩
  rw [hgd, hx] at hok hlen
  rw [hx] at e0 hb
  obtain ⟨b1, b2⟩ := hb
  subst hA
  have C := fun w' => unheadP_ok w' x b1 b2 hok
  rw [hlen] at C
  have C1 := hide C
  have hl4 : len ≤ 4 := by have := hok.1; omega
  have HR : Rd w Dw 1 (if cw = at_ + 1 then some ad else some (ad.add (at_ + 1))) len (u64s ((ws.drop (at_ + 1)).take len)) := by
    have h6 := (hW.rd.cut (k := at_ + 1) (cap := cw) (by omega) hcap.1).take (k := len) (by omega)
    have e6 : ((u64s ws).drop ((at_ + 1) * 1)).take (len * 1) = u64s ((ws.drop (at_ + 1)).take len) := by
      rw [Nat.mul_one, Nat.mul_one]
      unfold u64s; rw [List.map_take, List.map_drop]
    rw [e6, Nat.mul_one] at h6
    exact h6
  have HRH := hide HR
  obtain ⟨hc1, hc2⟩ := hcap
  clear C hlen hok hc hgd hx HR hW
  go_enter Try.func79, Try.ntmps79
  go_wp2_with fail
  refine (C1.out _).mono ?_
  rintro e w1 ⟨rfl, hb1⟩
  have hz := hb1.size
  by_cases hcc : cw = at_ + 1
  · have h7 := HRH.out
    rw [if_pos hcc] at h7
    have H7 := hide h7
    have hl0 : len = 0 := by omega
    subst hl0
    clear h7 HRH
    go_wp2_with fail
    go_ret
    exact ⟨some ad, 0, rfl, hb1.alloc hz _, H7.out⟩
  · have h7 := HRH.out
    rw [if_neg hcc, show ad.add (at_ + 1) = ⟨ad.block, ad.off + (at_ + 1), none⟩ from by simp [Addr.add]] at h7
    have H7 := hide h7
    have H8 := hide (show at_ + 1 + len - (at_ + 1) = len by omega)
    clear h7 HRH
    go_wp2_with fail
    go_ret
    exact ⟨_, cw - (at_ + 1), Eq.trans (b := Ending.returned (.slice (some ⟨ad.block, ad.off + (at_ + 1), none⟩) (at_ + 1 + len - (at_ + 1)) (cw - (at_ + 1)))) rfl (by rw [H8.out]), hb1.alloc hz _, H7.out⟩
end Go.Proofs.Ytpbafmdebflbpaa

namespace Go.Proofs.Ytpbafmdebflbpaa
open Go.RowKit Go.Maps

set_option maxHeartbeats 400000 in
theorem mv_num (w : World) (m : Nat) (x : Int) (h1 : 0 ≤ x) (h2 : x ≤ 18446744073709551615) (h3 : x % 2 = 1) :
    Calls Try.prog 65 #[.pointer (some ⟨m, 0, none⟩), .int .u64 x] w fun e w' => e = .returned (.int .u64 x) ∧ w' = w := by
  have C := hide (ref_num w x h1 h2 h3)
  clear h1 h2 h3
  go_enter Try.func65, Try.ntmps65
  go_wp2_with fail
  refine C.out.mono ?_
  rintro e w1 ⟨rfl, rfl⟩
  go_wp2_with fail
  go_ret
  first | exact ⟨rfl, rfl⟩ | exact rfl

theorem zeroInt_ (w : World) : (zeroValue 3).run Try.prog w = .ok (.int .i64 0) w := Try.zeroValue3 w

set_option maxRecDepth 100000 in
set_option maxHeartbeats 4000000 in
theorem mv_there (w : World) (m b n : Nat) (D : DataW Unit) (A1 A2 : Option Addr) (n1 c1 n2 c2 q : Nat) (x : Int) (h1 : 0 ≤ x) (h3 : x % 2 = 0) (h4 : x < 512) (hb : Blk w m 119 #[.slice A1 n1 c1, .slice A2 n2 c2, .map (some b)])
    (hm : w.ownsMap Try.prog 3 (plainElem Try.prog 3) b n D) (hhas : Maps.has D (.int .i64 (x / 2)) = true) (hat : ∀ z, D.atKey (.int .i64 (x / 2)) z = .lit (.int .i64 q)) (hq : q < 256) :
    Calls Try.prog 65 #[.pointer (some ⟨m, 0, none⟩), .int .u64 x] w fun e w' => e = .returned (.int .u64 (2 * (q : Int))) ∧ w' = w := by
  have C := hide (ref_ref w x h1 (by omega) h3)
  obtain ⟨b1, b2, b3⟩ := hb.rules
  have b5 : w.cell? ⟨m, 2, none⟩ = some (.map (some b)) := by rw [b1]; rfl
  obtain ⟨y, hy⟩ : ∃ y, x / 2 = y := ⟨_, rfl⟩
  have hy0 : 0 ≤ y := by omega
  have hy1 : y < 256 := by omega
  rw [hy] at C hhas hat
  have HAT := hide hat
  have hwf : (Lit.int .i64 y).wf = true := WalkArith.wf_i64 (by omega)
  clear h1 h3 h4 hy hat b1
  go_enter Try.func65, Try.ntmps65
  go_wp2_with fail
  refine C.out.mono ?_
  rintro e w1 ⟨rfl, rfl⟩
  clear C
  go_wp2_with (first
    | (at_lookup
       refine wpList_lookup_own_ok_int _ rfl _ _ 117 rfl 3 3 .i64 (int_keyed Try.underlying3) Try.underlying117 Try.underlying3 (zeroInt_ _) b n _ rfl hm _ _ rfl (keyOf_int_mk Try.underlying3 hwf) ?_
       intro c hat hwc
       (obtain rfl : c = (q : Int) := by
          have h9 := (HAT.out (.lit (.int .i64 0))).symm.trans hat
          injection h9 with h9; injection h9 with _ h9; exact h9.symm)
       clear hat hwc)
    | (at_lookup
       refine wpList_lookup_own_int _ rfl _ _ 117 rfl 3 3 .i64 (int_keyed Try.underlying3) Try.underlying117 Try.underlying3 (zeroInt_ _) b n _ rfl hm _ _ rfl (keyOf_int_mk Try.underlying3 hwf) ?_
       intro c hat hwc
       (obtain rfl : c = (q : Int) := by
          have h9 := (HAT.out (.lit (.int .i64 0))).symm.trans hat
          injection h9 with h9; injection h9 with _ h9; exact h9.symm)
       clear hat hwc))
  go_ret
  exact ⟨ret_int (a := (q : Int) * 2) (by omega), rfl⟩
end Go.Proofs.Ytpbafmdebflbpaa

namespace Go.Proofs.Ytpbafmdebflbpaa
open Go.RowKit Go.Maps

def MvI (m b nn : Nat) (D : DataW Unit) (At : Option Addr) (nt ct : Nat) (xs : List Int) (Aw : Option Addr) (nw cw : Nat) : List Item :=
  [rowI 24 1 At nt ct (u64s xs), mapJ b nn D, blkI m 119 #[.slice Aw nw cw, .slice At nt ct, .map (some b)]]

set_option maxRecDepth 100000 in
set_option maxHeartbeats 16000000 in
theorem mv_new (w : World) (Dw : Nat → Prop) (m b nn : Nat) (D : DataW Unit) (Aw At : Option Addr) (nw cw nt ct at_ len : Nat) (ws xs : List Int) (hs : (allI (MvI m b nn D At nt ct xs Aw nw cw)).P w) (hD : ∀ g, (allI (MvI m b nn D At nt ct xs Aw nw cw)).fp g → ¬ Dw g) (hW : WsD w Dw Aw nw cw ws) (hn : nw ≤ 256) (hnt : nt ≤ 256) (hnn : nn ≤ 256)
    (hok : unheadOK (ws.getD at_ 0)) (hlen : hLen (ws.getD at_ 0) = (len : Int)) (hl : at_ + 1 + len ≤ nw) (hhas : Maps.has D (.int .i64 (at_ : Int)) = false) (hmap : IsMap D) :
    Calls Try.prog 65 #[.pointer (some ⟨m, 0, none⟩), .int .u64 (2 * (at_ : Int))] w fun e w' => ∃ A' c', e = .returned (.int .u64 (2 * (nt : Int))) ∧
      Sep (allI (MvI m b nn D At nt ct xs Aw nw cw)).fp w w' [allI (MvI m b (nn + 1) (D.put (.int .i64 (at_ : Int)) (.lit (.int .i64 (nt : Int)))) A' (nt + (1 + len)) c' (xs ++ headW len false (if 7 < hAge (ws.getD at_ 0) + 1 then 7 else hAge (ws.getD at_ 0) + 1) :: (ws.drop (at_ + 1)).take len) Aw nw cw)] := by
  obtain ⟨F, hF⟩ : ∃ F, (allI (MvI m b nn D At nt ct xs Aw nw cw)).fp = F := ⟨_, rfl⟩
  have hS := (Sep.start hs).flat
  rw [hF] at hS hD ⊢
  clear hF hs
  have hlt : at_ < nw := by omega
  have hkl : at_ < ws.length := by rw [hW.in_.len]; exact hlt
  have C0 := hide (ref_ref w (2 * (at_ : Int)) (by omega) (by omega) (by omega))
  rw [show 2 * (at_ : Int) / 2 = (at_ : Int) from by omega] at C0
  obtain ⟨b1, b2, b3, b4⟩ := hS.rules 2 (g := m) (t := 119) rfl
  have b5 : w.cell? ⟨m, 2, none⟩ = some (.map (some b)) := by rw [b1]; rfl
  have b6 : w.cell? ⟨m, 0, none⟩ = some (.slice Aw nw cw) := by rw [b1]; rfl
  have hown : w.ownsMap Try.prog 3 (plainElem Try.prog 3) b nn D := hS.get 1 rfl
  have hwf : (Lit.int .i64 (at_ : Int)).wf = true := WalkArith.wf_i64 (by omega)
  have hwft : (Lit.int .i64 (nt : Int)).wf = true := WalkArith.wf_i64 (by omega)
  obtain ⟨ad, hA, _, had, hc⟩ := hW.rd.at_ hlt
  have e0 := hc (.int .u64 ws[at_]) (by simp [u64s, List.getElem?_eq_getElem hkl])
  have hb := hW.wf _ (List.getElem_mem hkl)
  have hgd : ws.getD at_ 0 = ws[at_] := by rw [List.getD_eq_getElem?_getD, List.getElem?_eq_getElem hkl]; rfl
  have FD := hide (fun w' hc => fieldsD_any w' Dw Aw nw cw at_ len ws (hW.chg (S := F) (w' := w') hc hD) hn hok hlen hl)
  obtain ⟨x, hx⟩ : ∃ x, ws[at_] = x := ⟨_, rfl⟩
  rw [hgd, hx] at hok hlen ⊢
  rw [hx] at e0 hb
  have C := fun w' => unheadP_ok w' x hb.1 hb.2 hok
  rw [hlen] at C
  have C1 := hide C
  have hl4 : len ≤ 4 := by have := hok.1; omega
  have ha0 : 0 ≤ hAge x := by unfold hAge; omega
  have ha7 : hAge x ≤ 7 := by unfold hAge; omega
  obtain ⟨ag, hag⟩ : ∃ ag, hAge x = ag := ⟨_, rfl⟩
  obtain ⟨mk, hmk⟩ : ∃ mk, hMark x = mk := ⟨_, rfl⟩
  rw [hag] at C1 ha0 ha7 ⊢
  rw [hmk] at C1
  obtain ⟨ys, hys⟩ : ∃ ys, (ws.drop (at_ + 1)).take len = ys := ⟨_, rfl⟩
  rw [hys] at FD ⊢
  obtain ⟨hg, hhg⟩ : ∃ y, (if 7 < ag + 1 then 7 else ag + 1) = y := ⟨_, rfl⟩
  rw [hhg]
  have HHG := hide hhg
  have HS := hide hS
  have HMAP := hide hmap
  subst hA
  clear hS b1 b4 hc hb hgd C hok hlen hD hW hkl hx hag hmk hys hmap hhg
  go_enter Try.func65, Try.ntmps65
  go_wp2_with fail
  refine C0.out.mono ?_
  rintro e w1 ⟨rfl, rfl⟩
  clear C0
  go_wp2_with (first
    | (at_lookup
       refine wpList_lookup_own_ok_int _ rfl _ _ 117 rfl 3 3 .i64 (int_keyed Try.underlying3) Try.underlying117 Try.underlying3 (zeroInt_ _) b nn _ rfl hown _ _ rfl (keyOf_int_mk Try.underlying3 hwf) ?_
       intro c hat hwc
       clear hat hwc))
  refine (C1.out _).mono ?_
  rintro e w3 ⟨rfl, hb3⟩
  have hS3 := (HS.out.below hb3).alloc (.cells #[.int .i64 len, .bool mk, .int .i64 ag] 23)
  have hS4 := (HS.out.below hb3).blkAt 23 #[.int .i64 len, .bool mk, .int .i64 ag] rfl
  clear b2 b3 b5 b6 hown hhas hS3 C1
  obtain ⟨b1, b2, b3, b4⟩ := (HS.out.below hb3).rules 2 (g := m) (t := 119) rfl
  have b5 : w3.cell? ⟨m, 2, none⟩ = some (.map (some b)) := by rw [b1]; rfl
  have b6 : w3.cell? ⟨m, 0, none⟩ = some (.slice (some ad) nw cw) := by rw [b1]; rfl
  have b7 : w3.cell? ⟨m, 1, none⟩ = some (.slice At nt ct) := by rw [b1]; rfl
  have HS4 := hide hS4
  clear hb3 HS b1 b4 e0 had hS4
  go_wp2_with fail
  have hS5 : Sep F w1 (w3.alloc (.cells #[.int .i64 len, .bool mk, .int .i64 ag] 23)).drew [rowI 24 1 At nt ct (u64s xs), mapJ b nn D, blkI m 119 #[.slice (some ad) nw cw, .slice At nt ct, .map (some b)], blkI w3.heap.size 23 #[.int .i64 len, .bool mk, .int .i64 ag]] := HS4.out.drew
  obtain ⟨w5, hrun, hS6⟩ := hS5.mapUpd 1 rfl (by unfold maxLen; omega) (at_ : Int) (nt : Int) hwf hwft
  clear HS4
  go_region
  clear hrun
  clear b2 b3 b5 b6 b7 hS5
  obtain ⟨b1, b2, b3, b4⟩ := hS6.rules 2 (g := m) (t := 119) rfl
  have b5 : w5.cell? ⟨m, 2, none⟩ = some (.map (some b)) := by rw [b1]; rfl
  have b6 : w5.cell? ⟨m, 0, none⟩ = some (.slice (some ad) nw cw) := by rw [b1]; rfl
  have b7 : w5.cell? ⟨m, 1, none⟩ = some (.slice At nt ct) := by rw [b1]; rfl
  obtain ⟨h1, h2, h3, h4⟩ := hS6.rules 3 (g := w3.heap.size) (t := 23) rfl
  have h5 : w5.cell? ⟨w3.heap.size, 0, none⟩ = some (.int .i64 len) := by rw [h1]; rfl
  have h6 : w5.cell? ⟨w3.heap.size, 2, none⟩ = some (.int .i64 ag) := by rw [h1]; rfl
  clear b1 b4 h1 h4
  have HS6 := hide hS6
  clear hS6
  go_wp2_with fail
  all_goals
    refine (head14_ok w5 (len : Int) _ false (by omega) (by omega) (by omega) (by omega)).mono ?_
    rintro e w6 ⟨rfl, hb6⟩
    have hS7 := HS6.out.below hb6
    clear b2 b3 b5 b6 b7 h2 h3 h5 h6 HS6 hb6
    obtain ⟨b1, b2, b3, b4⟩ := hS7.rules 2 (g := m) (t := 119) rfl
    have b6 : w6.cell? ⟨m, 0, none⟩ = some (.slice (some ad) nw cw) := by rw [b1]; rfl
    have b7 : w6.cell? ⟨m, 1, none⟩ = some (.slice At nt ct) := by rw [b1]; rfl
    clear b1 b4
    go_wp2_with fail
    go_region_law (first
      | (refine step_app1d (cs := #[.int .u64 (headW len false _)]) rfl (.tmp 68) (.tmp 70) 53 rfl (F := F) (W := w1) sWord (items := _ :: _ :: _ :: _) hS7 0 (n := nt) rfl rfl rfl (by simp) rfl rfl (by omega) ?_
         intro A7 c7 w7 hS8 hC8
         obtain ⟨z1, z2, z3, z4⟩ := hS8.rules 2 (g := m) (t := 119) rfl
         (have z5 : w7.cell? ⟨m, 0, none⟩ = some (.slice (some ad) nw cw) := by rw [z1]; rfl)
         clear z1 z4 hC8)
      | (try go_simp
         go_at_call 79
         refine (FD.out w7 hS8.bel).mono ?_
         rintro e w8 ⟨A8, c8, rfl, hb8, hR8⟩
         have hS9 := hS8.below hb8
         have hR9 := (hR8.below hb8).more (D' := fun _ => True) (fun _ _ _ => trivial)
         obtain ⟨y1, y2, y3, y4⟩ := hS9.rules 2 (g := m) (t := 119) rfl
         (have y5 : w8.cell? ⟨m, 0, none⟩ = some (.slice (some ad) nw cw) := by rw [y1]; rfl)
         clear y1 y4)
      | (refine step_app rfl (.tmp 71) (.tmp 77) 53 rfl sWord hS9 0 (n := nt + 1) rfl rfl rfl hR9 (u64s_one _) (by omega) ?_
         intro A9 c9 w9 hS10 hC10
         obtain ⟨x1, x2, x3, x4⟩ := hS10.rules 2 (g := m) (t := 119) rfl
         (have x5 : w9.cell? ⟨m, 1, none⟩ = some (.slice At nt ct) := by rw [x1]; rfl)
         clear x1 x4 hC10))
    all_goals
      have hF := hS10.set_ 2 (g := m) (t := 119) rfl 1 (.slice A9 (nt + 1 + len) c9)
      obtain ⟨wz, hwz⟩ : ∃ wz, w9.setCell ⟨m, 1, none⟩ (.slice A9 (nt + 1 + len) c9) = wz := ⟨_, rfl⟩
      rw [hwz] at hF ⊢
      obtain ⟨v1, v2, v3, v4⟩ := hF.rules 2 (g := m) (t := 119) rfl
      have v5 : wz.cell? ⟨m, 2, none⟩ = some (.map (some b)) := by rw [v1]; rfl
      have hown : wz.ownsMap Try.prog 3 (plainElem Try.prog 3) b (nn + 1) (D.put (.int .i64 (at_ : Int)) (.lit (.int .i64 (nt : Int)))) := hF.get 1 rfl
      have HF := hide hF
      clear b2 b3 b6 b7 z2 z3 z5 y2 y3 y5 x2 x3 x5 v1 v4 hS7 hS8 hS9 hS10 hR8 hR9 hb8 hF hwz
      go_wp2_with (first
        | (at_lookup
           refine wpList_lookup_own_int _ rfl _ _ 117 rfl 3 3 .i64 (int_keyed Try.underlying3) Try.underlying117 Try.underlying3 (zeroInt_ _) b (nn + 1) _ rfl hown _ _ rfl (keyOf_int_mk Try.underlying3 hwf) ?_
           intro c hat hwc
           (obtain rfl : c = (nt : Int) := by
              rw [atKey_put_same (k := Lit.int .i64 (at_ : Int)) HMAP.out trivial] at hat
              injection hat with h9; injection h9 with _ h9; exact h9.symm)
           clear hat hwc))
      go_ret
      refine ⟨ret_int (a := (nt : Int) * 2) (by omega), A9, c9, ?_⟩
      have hE : u64s (xs ++ headW len false hg :: ys) = u64s xs ++ (#[Value.int .u64 (headW len false hg)] : Array Value).toList ++ u64s ys := by simp [u64s]
      rw [show nt + (1 + len) = nt + 1 + len from by omega]
      unfold MvI
      rw [hE]
      first
        | (obtain rfl : hg = 7 := (by rw [← HHG.out, if_pos (show 7 < ag + 1 by omega)])
           have h9 := (HF.out.sub (List.take_sublist 3 _)).fold
           exact h9)
        | (obtain rfl : hg = ag + 1 := (by rw [← HHG.out, if_neg (show ¬ 7 < ag + 1 by omega)])
           have h9 := (HF.out.sub (List.take_sublist 3 _)).fold
           exact h9)
end Go.Proofs.Ytpbafmdebflbpaa
