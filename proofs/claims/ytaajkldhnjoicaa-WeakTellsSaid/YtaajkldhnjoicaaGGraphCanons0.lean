/- The reference's Renumber. Maps from int64 to int64, of the call's own; where each of a list stands. The program's Renumber. -/
import Derived.Test.YtaajkldhnjoicaaGGraphTells4
import Derived.Maps.OwnOps
import Derived.Maps.OwnSet
set_option linter.unusedSimpArgs false
set_option linter.unusedVariables false
namespace Go.Proofs.Ytaajkldhnjoicaa
open Go.RowKit

def renumF (fss : List (List Val)) (l : List Int) : List (List Val) := l.map fun x => (fieldsI fss x).map (turnL l)
theorem renumF_take (fss : List (List Val)) (l : List Int) (k : Nat) (h : k < l.length) : (renumF fss l).take (k + 1) = (renumF fss l).take k ++ [(fieldsI fss l[k]).map (turnL l)] := by
  have h2 : k < (renumF fss l).length := by unfold renumF; rw [List.length_map]; exact h
  rw [List.take_succ_eq_append_getElem h2]
  simp [renumF]
theorem obs_snoc_ (l : List Ob) (o : Ob) : (l ++ [o]).map Ob.val = l.map Ob.val ++ [Value.slice o.A o.n o.c] := by simp [Ob.val]

set_option maxRecDepth 100000 in
set_option maxHeartbeats 16000000 in
theorem renumber_any (w : World) (v : Value) (Al : Option Addr) (nl cl : Nat) (fss : List (List Val)) (roots : List Val) (l : List Int) (h : GraphRd w (fun _ => True) v fss roots) (hl : Rd w (fun _ => True) 1 Al nl (ints l)) (hlr : ∀ x ∈ l, 0 ≤ x ∧ x < (fss.length : Int)) (hn : fss.length ≤ 1000) (hnl : nl ≤ 1000) (hr : roots.length ≤ 1000) (hf : ∀ fs ∈ fss, fs.length ≤ 1000) :
    Calls Try.prog 91 #[v, .slice Al nl cl] w fun e w' => ∃ v', e = .returned v' ∧ Below w.heap.size w w' ∧ GraphRd w' (fun g => w.heap.size ≤ g) v' (renumF fss l) (roots.map (turnL l)) := by
  obtain ⟨AO, nO, cO, AR, nR, cR, obs, rfl, hO, h3, hR⟩ := h.ex
  have HRL := hide (show roots.length = nR by have := hR.1; rw [vals_length] at this; omega)
  have HLL := hide (show l.length = nl by have := hl.1; simpa using this)
  have HOL := hide hO.len
  have hlen : fss.length = nO := by rw [← h3, List.length_map]; exact hO.len
  rw [hlen] at hlr hn
  have HF := hide hf
  have H3 := hide h3
  have HLR := hide hlr
  have hnR : nR ≤ 1000 := by have := HRL.out; omega
  have hS0 := ((Sep.nil No w).blkAt 25 #[.slice AO nO cO, .slice AR nR cR] rfl).blkAt 25 #[.slice none 0 0, .slice none 0 0] (g := w.heap.size + 1) (by simp)
  obtain ⟨a1, a2, a3, a4⟩ := hS0.rules 0 (g := w.heap.size) (t := 25) rfl
  have HS0 := hide hS0
  have C1 := hide (turned_any _ AR Al nR cR nl cl roots l hnR hnl (hR.below hS0.below_) (hl.below hS0.below_))
  clear hlr hf h3 hlen hr h hS0
  go_enter Try.func91, Try.ntmps91
  go_wp2_with fail
  refine C1.out.mono ?_
  rintro e w3 ⟨Ar, cr, rfl, hP⟩
  have hS5 := ((HS0.out.snocNew hP.below_ _ (hP.get 0 rfl) (fun g hg => (hP.lo 0 rfl g hg).resolve_left (fun h => h))).blkAt 25 #[.slice none 0 0, .slice Ar nR cr] rfl).nilRow0 83 1
  have HS5 := hide hS5
  clear a1 a2 a3 a4 hS5 HS0 hP C1
  go_wp2_with fail
  go_loopw [15] (fun i wr => ∃ (k : Nat) (A' : Option Addr) (c' : Nat) (obs' : List Ob), k ≤ nl ∧ i = .int .i64 k ∧ Hid (obs'.map Ob.fields = (renumF fss l).take k) ∧
    Sep No w wr (rowI 83 1 A' k c' (obs'.map Ob.val) :: blkI w.heap.size 25 #[.slice AO nO cO, .slice AR nR cR] :: blkI (w.heap.size + 1) 25 #[.slice none 0 0, .slice none 0 0] :: rowI 86 2 Ar nR cr (vals (roots.map (turnL l))) :: blkI w3.heap.size 25 #[.slice A' k c', .slice Ar nR cr] :: obs'.map obI)) (fun i _ => nl - (intOf i).toNat)
  case atStart => exact ⟨0, none, 0, [], by omega, rfl, by simp [Hid], HS5.out⟩
  case round =>
    clear HS5
    obtain ⟨k, A', c', obs', hk, rfl, HO, hS⟩ := hrel
    by_cases hlt : k < nl
    · have hkl : k < l.length := by rw [HLL.out]; exact hlt
      obtain ⟨ad, hA, _, had, hc⟩ := (hl.below hS.below_).at_ hlt
      have e0 := hc (.int .i64 l[k]) (by simp [ints, List.getElem?_eq_getElem hkl])
      obtain ⟨r1, r2⟩ := HLR.out _ (List.getElem_mem hkl)
      have HT := hide (renumF_take fss l k hkl)
      obtain ⟨x, hx⟩ := int_nat r1
      rw [hx] at e0 r2 HT
      have hxn : x < nO := by omega
      have hxl : x < obs.length := by rw [HOL.out]; exact hxn
      obtain ⟨ad2, hA2, _, had2, hc2⟩ := (hO.below hS.below_).row.at_ hxn
      have e1 := hc2 obs[x].val (by simp [List.getElem?_eq_getElem hxl])
      have hEach := hO.each _ (List.getElem_mem hxl)
      have hFl := hO.flen (List.getElem_mem hxl)
      have hfi : fieldsI fss (x : Int) = obs[x].fields := by
        unfold fieldsI
        rw [← H3.out, List.getD_eq_getElem?_getD]
        simp [List.getElem?_eq_getElem hxl]
      have hfb := HF.out _ (show obs[x].fields ∈ fss by rw [← H3.out]; exact List.mem_map.2 ⟨_, List.getElem_mem hxl, rfl⟩)
      obtain ⟨o, ho⟩ : ∃ o, obs[x] = o := ⟨_, rfl⟩
      rw [hfi] at HT
      rw [ho] at e1 hEach hFl hfb HT
      unfold Ob.val at e1
      rw [hFl] at hfb
      have C := hide (fun w' (hb : Below w.heap.size w w') => turned_any w' o.A Al o.n o.c nl cl o.fields l hfb hnl (hEach.below hb) (hl.below hb))
      obtain ⟨i1, i2, i3, i4⟩ := hS.rules 1 (g := w.heap.size) (t := 25) rfl
      obtain ⟨j1, j2, j3, j4⟩ := hS.rules 4 (g := w3.heap.size) (t := 25) rfl
      have i5 : wr.cell? ⟨w.heap.size, 0, none⟩ = some (.slice AO nO cO) := by rw [i1]; rfl
      have j5 : wr.cell? ⟨w3.heap.size, 0, none⟩ = some (.slice A' k c') := by rw [j1]; rfl
      have i0 : (0 : Int) ≤ x := by omega
      subst hA hA2
      have HS := hide hS
      clear hc hc2 r1 r2 hx hfi hFl hfb hEach ho hS i1 j1 i4 j4 had2
      go_wp2_with fail
      clear e0
      go_region_law (first
        | (refine step_app1 (cs := #[.slice A5 o.n c5]) rfl (.tmp 20) (.tmp 30) 22 rfl (F := No) (W := w) sObj (items := _ :: _ :: _ :: _ :: _ :: _) hS5 0 (n := k) rfl rfl rfl (by simp) rfl rfl (by omega) ?_
           intro A7 c7 w7 hS7 hC7
           obtain ⟨z1, z2, z3, z4⟩ := hS7.rules 4 (g := w3.heap.size) (t := 25) rfl
           (have z5 : w7.cell? ⟨w3.heap.size, 0, none⟩ = some (.slice A' k c') := by rw [z1]; rfl)
           clear z1 z4 hC7)
        | (try go_simp
           go_at_call 126
           refine (C.out wr.drew HS.out.drew.below_).mono ?_
           rintro e w4 ⟨A5, c5, rfl, hP5⟩
           have hS5 := HS.out.drew.snocNew hP5.below_ _ (hP5.get 0 rfl) (fun g hg => (hP5.lo 0 rfl g hg).resolve_left (fun h => h))
           obtain ⟨x1, x2, x3, x4⟩ := hS5.rules 4 (g := w3.heap.size) (t := 25) rfl
           (have x5 : w4.cell? ⟨w3.heap.size, 0, none⟩ = some (.slice A' k c') := by rw [x1]; rfl)
           clear x1 x4))
      all_goals
        go_wp2_with fail
        go_roundw
        case rel =>
          refine ⟨k + 1, A7, c7, obs' ++ [⟨A5, o.n, c5, o.fields.map (turnL l)⟩], by omega, by go_num, ?_, ?_⟩
          · show _ = _
            rw [HT.out, ← HO.out]
            simp
          · rw [obs_snoc_, List.map_append]
            exact hS7.set_ 4 (g := w3.heap.size) (t := 25) rfl 0 (.slice A7 (k + 1) c7)
        case measure => simp [intOf]; omega
    · obtain rfl : k = nl := by omega
      have hO2 : obs'.map Ob.fields = renumF fss l := by
        rw [HO.out]; exact List.take_of_length_le (by unfold renumF; rw [List.length_map, HLL.out]; omega)
      have HO2 := hide hO2
      obtain ⟨j1, j2, j3, j4⟩ := hS.rules 4 (g := w3.heap.size) (t := 25) rfl
      obtain ⟨y1, y2, y3, y4⟩ := hS.rules 2 (g := w.heap.size + 1) (t := 25) rfl
      have HS := hide hS
      clear hO2 hS HO
      go_wp2_with fail
      have hF := (HS.out.set_ 2 (g := w.heap.size + 1) (t := 25) rfl 0 (.slice A' k c')).set_ 2 (g := w.heap.size + 1) (t := 25) rfl 1 (.slice Ar nR cr)
      refine bodyPost_ret (v := .agg #[.slice A' k c', .slice Ar nR cr]) (by simp [results, Try.results91, go_sem, y1]) rfl ⟨_, rfl, hF.below_, ?_⟩
      refine ⟨_, _, _, _, _, _, obs', rfl, obs_read hF (fun o ho => ?_) 0 rfl, HO2.out, hF.rd 3 rfl⟩
      simp only [List.set_cons_succ, List.set_cons_zero, List.mem_cons, List.mem_map]
      exact .inr (.inr (.inr (.inr (.inr ⟨o, ho, rfl⟩))))
end Go.Proofs.Ytaajkldhnjoicaa

namespace Go.Proofs.Ytaajkldhnjoicaa
open Go.RowKit Go.Maps

/-- A map from numbers to numbers, of the call's own. -/
def imL (b n : Nat) (D : DataW Unit) : Item where
  fp k := k = b
  P w := w.ownsMap Try.prog 2 (plainElem Try.prog 2) b n D
  dom w h k hk := by subst hk; exact World.ownsMap.lt h
  loc w w' _ hk h := by obtain ⟨es, clock, hb, r⟩ := h; exact ⟨es, clock, (hk b rfl).trans hb, r⟩
set_option maxRecDepth 100000 in
theorem Sep.imLUpd {F : Nat → Prop} {W w : World} {items : List Item} (hS : Sep F W w items) (k : Nat) {b n : Nat} {D : DataW Unit} (hk : items[k]? = some (imL b n D)) (hn : n < maxLen) (y z : Int) (hy : (Lit.int .i64 y).wf = true) (hz : (Lit.int .i64 z).wf = true) :
    ∃ w', (Instr.mapUpdate 165 (.map (some b)) (.int .i64 y) (.int .i64 z)).run Try.prog w = .ok () w' ∧ Sep F W w' (items.set k (imL b (n + 1) (D.put (.int .i64 y) (.lit (.int .i64 z))))) ∧ Chg (fun g => g = b) w w' := by
  have hown : w.ownsMap Try.prog 2 (plainElem Try.prog 2) b n D := hS.get k hk
  obtain ⟨w', hrun, r1, r2⟩ := hown.update (int_keyed Try.underlying2) Try.underlying165 hn (keyOf_int_mk Try.underlying2 hy) (plainElem_int Try.underlying2 hz)
  have hc : Chg (fun g => g = b) w w' := (Chg.of_grown r2).mono (fun g hx => .inl (by injection hx with hx; exact hx.symm))
  exact ⟨w', hrun, hS.step k hk hc (imL b (n + 1) (D.put (.int .i64 y) (.lit (.int .i64 z)))) r1 (fun g hg => .inl hg), hc⟩
set_option maxRecDepth 100000 in
theorem wpList_imLUpd {w : World} {ops : Array Oper} {rest : List Oper} {o : Oper} {a : Act} {Q : Exit → Act → World → Prop} (hgd : o.guard = none) (m x v : Operand) (hop : o.op = Op.mapUpdate 165 m x v)
    {F : Nat → Prop} {W : World} {items : List Item} (hS : Sep F W w items) (k : Nat) {b n : Nat} {D : DataW Unit} (hk : items[k]? = some (imL b n D)) (hn : n < maxLen) (y z : Int) (hm : a.eval m = .map (some b)) (hx : a.eval x = .int .i64 y) (hv : a.eval v = .int .i64 z)
    (hy : (Lit.int .i64 y).wf = true) (hz : (Lit.int .i64 z).wf = true) (h : ∀ w', Sep F W w' (items.set k (imL b (n + 1) (D.put (.int .i64 y) (.lit (.int .i64 z))))) → wpList Try.prog ops Q rest (a.put o.dst undef) w') : wpList Try.prog ops Q (o :: rest) a w :=
  wpList_plain hgd fun K hK => by
    obtain ⟨w', hrun, hS', _⟩ := hS.imLUpd k hk hn y z hy hz
    unfold Oper.wp
    simp [execOp, hop, hm, hx, hv, hrun, Result.andThen]
    exact hK _ _ (h w' hS')
theorem zeroL_ (w : World) : (zeroValue 2).run Try.prog w = .ok (.int .i64 0) w := by kernel_rfl
set_option maxRecDepth 100000 in
theorem run_lookupL {w : World} {b n : Nat} {D : DataW Unit} (hown : w.ownsMap Try.prog 2 (plainElem Try.prog 2) b n D) (y z : Int) (hy : (Lit.int .i64 y).wf = true) (hz : D.atKey (.int .i64 y) (.lit (.int .i64 0)) = .lit (.int .i64 z)) : (Instr.lookup 165 (.map (some b)) (.int .i64 y) false).run Try.prog w = .ok (.int .i64 z) w := by
  obtain ⟨c, hrun, hat, hwc⟩ := hown.lookup_int (int_keyed Try.underlying2) Try.underlying165 Try.underlying2 (zeroL_ w) (keyOf_int_mk Try.underlying2 hy)
  obtain rfl : c = z := by
    have h9 := hz.symm.trans hat
    injection h9 with h9; injection h9 with _ h9; exact h9.symm
  exact hrun
/-- A new map. -/
theorem Sep.imLNew {F : Nat → Prop} {W w : World} {items : List Item} (hS : Sep F W w items) {g : Nat} (hg : w.heap.size = g) : Sep F W (w.alloc (.map #[] 0)) (items ++ [imL g 0 (.map [])]) := by
  subst hg
  exact hS.snocNew ((Below.refl _ w).alloc (Nat.le_refl _) _) (imL w.heap.size 0 (.map [])) (World.ownsMap_made _ _ _ _) (fun g hg => by rw [show g = w.heap.size from hg]; exact Nat.le_refl _)

theorem litL_ne {x y : Int} (h : x ≠ y) : (Lit.int .i64 x) ≠ .int .i64 y := fun e => by injection e with _ e; exact h e
theorem wfL {x : Int} (h0 : -1000 ≤ x) (h1 : x ≤ 1000) : (Lit.int .i64 x).wf = true := WalkArith.wf_i64 (by omega)
/-- Where each stands. -/
structure AtD (l : List Int) (D : DataW Unit) : Prop where
  map : Maps.IsMap D
  at_ : ∀ x : Int, D.atKey (.int .i64 x) (.lit (.int .i64 0)) = .lit (.int .i64 (placeN l x))
theorem AtD.nil : AtD [] (.map []) := ⟨⟨[], rfl⟩, fun x => by simp [DataW.atKey, placeN]⟩
theorem placeN_snoc {l : List Int} {x : Int} (hx : x ∉ l) (y : Int) : placeN (l ++ [x]) y = if y = x then l.length else placeN l y := by
  unfold placeN
  by_cases e : y = x
  · subst e
    rw [if_pos rfl, if_pos (by simp), List.idxOf_append, if_neg hx]
    simp
  · rw [if_neg e]
    by_cases h : y ∈ l
    · rw [if_pos h, if_pos (by simp [h]), List.idxOf_append, if_pos h]
    · rw [if_neg h, if_neg (by simp [h, e])]
theorem AtD.snoc {l : List Int} {D : DataW Unit} (h : AtD l D) {x : Int} (hx : x ∉ l) : AtD (l ++ [x]) (D.put (.int .i64 x) (.lit (.int .i64 (l.length : Int)))) := by
  refine ⟨h.map.put _ _, fun y => ?_⟩
  rw [placeN_snoc hx]
  by_cases e : y = x
  · subst e
    rw [atKey_put_same (k := Lit.int .i64 y) h.map trivial, if_pos rfl]
  · rw [atKey_put_other (litL_ne e), h.at_, if_neg e]

set_option maxRecDepth 100000 in
set_option maxHeartbeats 4000000 in
theorem turnP_any (w : World) (Bm b nn : Nat) (D : DataW Unit) (A : Option Addr) (n c N : Nat) (vs : List Val) (l : List Int) (hn : n ≤ 1000) (hnl : l.length ≤ 1000) (hv : Rd w (fun _ => True) 2 A n (vals vs)) (hB : Blk w Bm 165 #[.map (some b)]) (hM : (imL b nn D).P w) (hD : AtD l D) (hvs : ValsOk N vs) (hN : N ≤ 1000) :
    Calls Try.prog 125 #[.slice A n c, .pointer (some ⟨Bm, 0, none⟩)] w fun e w' => ∃ A' c', e = .returned (.slice A' n c') ∧ Sep No w w' [rowI 86 2 A' n c' (vals (vs.map (turnL l)))] := by
  have HLL := hide (show vs.length = n by have := hv.1; rw [vals_length] at this; omega)
  have HS0 := hide ((Sep.nil No w).nilRow 86 2)
  have HBB := hide hB
  have HMM := hide hM
  have HDD := hide hD
  have HVS := hide hvs
  clear hB hM hD hvs
  go_enter Try.func125, Try.ntmps125
  go_wp2_with fail
  go_loopw [4, 9] (fun s5 i wr => ∃ (k : Nat) (A' : Option Addr) (c' : Nat), k ≤ n ∧ i = .int .i64 k ∧ s5 = .slice A' k c' ∧ Sep No w wr [rowI 86 2 A' k c' (vals ((vs.take k).map (turnL l)))]) (fun _ i _ => n - (intOf i).toNat)
  case atStart => exact ⟨0, none, 0, by omega, rfl, rfl, HS0.out⟩
  case round =>
    clear HS0
    obtain ⟨k, A', c', hk, rfl, rfl, hS⟩ := hrel
    by_cases hlt : k < n
    · have hkl : k < vs.length := by rw [HLL.out]; exact hlt
      obtain ⟨ad, hA, _, had, hc, hd⟩ := (hv.below hS.below_).atN hlt
      obtain ⟨v0, v1⟩ := vals_at vs k hkl
      have e0 := hc _ v0
      have e1 := hd 0 _ v1
      have HT := hide (List.take_succ_eq_append_getElem hkl)
      have hvk := HVS.out _ (List.getElem_mem hkl)
      obtain ⟨x, hx⟩ : ∃ x, vs[k] = x := ⟨_, rfl⟩
      rw [hx] at e0 e1 HT hvk
      subst hA
      clear hc hd v0 v1 hx
      obtain ⟨b9, m⟩ := x
      dsimp only at e0 e1 hvk
      cases b9 with
      | false =>
        have HX := hide (show turnL l (false, m) = (false, m) from rfl)
        clear hvk
        go_wp2_with (first
          | (at_builtin
             refine wpList_app1 (cs := #[.bool false, .int .i64 m]) rfl (.tmp 20) (.tmp 22) 23 rfl sVal (hS.alloc _) 0 (n := k) rfl rfl rfl (by simp) rfl rfl (by omega) ?_
             intro A4 c4 w4 hS4 hC4))
        go_roundw
        case rel => exact ⟨k + 1, A4, c4, by omega, by go_num, rfl, by rw [HT.out, List.map_append, List.map_cons, List.map_nil, HX.out, vals_snoc]; exact hS4⟩
        case measure => simp [intOf]; omega
      | true =>
        obtain ⟨r0, r1⟩ := hvk rfl
        have HX := hide (show turnL l (true, m) = (true, (placeN l m : Int)) from rfl)
        have hbw := (hS.alloc (.cells #[.bool true, .int .i64 m] 86)).below_
        have hM2 : (imL b nn D).P (wr.alloc (.cells #[.bool true, .int .i64 m] 86)) := (imL b nn D).loc w _ hbw.size (fun k hk => hbw.block k ((imL b nn D).dom w HMM.out k hk)) HMM.out
        have q1 := run_lookupL hM2 m (placeN l m : Int) (wfL (by omega) (by omega)) (HDD.out.at_ m)
        obtain ⟨z1, z2, z3⟩ := (HBB.out.below_ hS.below_).rules
        have z4 := z1 0
        obtain ⟨q, hq⟩ : ∃ q, placeN l m = q := ⟨_, rfl⟩
        rw [hq] at q1 HX
        clear hq hbw hM2 hvk z1
        go_wp2_with (first
          | (at_builtin
             refine wpList_app1 (cs := #[.bool true, .int .i64 q]) rfl (.tmp 20) (.tmp 22) 23 rfl sVal (hS.alloc _) 0 (n := k) rfl rfl rfl (by simp) rfl rfl (by omega) ?_
             intro A4 c4 w4 hS4 hC4))
        go_roundw
        case rel => exact ⟨k + 1, A4, c4, by omega, by go_num, rfl, by rw [HT.out, List.map_append, List.map_cons, List.map_nil, HX.out, vals_snoc]; exact hS4⟩
        case measure => simp [intOf]; omega
    · obtain rfl : k = n := by omega
      rw [show vs.take k = vs from List.take_of_length_le (by rw [HLL.out]; omega)] at hS
      go_wp2_with fail
      go_ret
      exact ⟨A', c', rfl, hS⟩
end Go.Proofs.Ytaajkldhnjoicaa

namespace Go.Proofs.Ytaajkldhnjoicaa
open Go.RowKit Go.Maps

set_option maxRecDepth 100000 in
set_option maxHeartbeats 16000000 in
theorem renumP_any (w : World) (v : Value) (Al : Option Addr) (nl cl : Nat) (fss : List (List Val)) (roots : List Val) (l : List Int) (h : GraphRd w (fun _ => True) v fss roots) (hl : Rd w (fun _ => True) 1 Al nl (ints l)) (hlr : ∀ x ∈ l, 0 ≤ x ∧ x < (fss.length : Int)) (hnd : l.Nodup) (hn : fss.length ≤ 1000) (hnl : nl ≤ 1000) (hr : roots.length ≤ 1000) (hf : ∀ fs ∈ fss, fs.length ≤ 1000) (hvr : ValsOk fss.length roots) (hvg : ∀ fs ∈ fss, ValsOk fss.length fs) :
    Calls Try.prog 87 #[v, .slice Al nl cl] w fun e w' => ∃ v', e = .returned v' ∧ Below w.heap.size w w' ∧ GraphRd w' (fun g => w.heap.size ≤ g) v' (renumF fss l) (roots.map (turnL l)) := by
  obtain ⟨AO, nO, cO, AR, nR, cR, obs, rfl, hO, h3, hR⟩ := h.ex
  have HRL := hide (show roots.length = nR by have := hR.1; rw [vals_length] at this; omega)
  have HLL := hide (show l.length = nl by have := hl.1; simpa using this)
  have HOL := hide hO.len
  have hlen : fss.length = nO := by rw [← h3, List.length_map]; exact hO.len
  rw [hlen] at hlr hn hvr
  simp only [hlen] at hvg
  have HF := hide hf
  have H3 := hide h3
  have HLR := hide hlr
  have HND := hide hnd
  have HVR := hide hvr
  have HVG := hide hvg
  have hnR : nR ≤ 1000 := by have := HRL.out; omega
  have hS0 := (((((Sep.nil No w).blkAt 25 #[.slice AO nO cO, .slice AR nR cR] rfl).blkAt 25 #[.slice none 0 0, .slice none 0 0] (g := w.heap.size + 1) (by simp)).imLNew (g := w.heap.size + 1 + 1) (by simp)).blkAt 165 #[.map (some (w.heap.size + 1 + 1))] (g := w.heap.size + 1 + 1 + 1) (by simp))
  have HS0 := hide hS0
  have hmm := @run_makeMap Try.prog
  clear hlr hf h3 hlen hr h hS0 hnd hvr hvg
  go_enter Try.func87, Try.ntmps87
  go_wp2_with fail
  go_loopw [15] (fun s wr => ∃ (k : Nat) (D : DataW Unit), k ≤ nl ∧ s = .int .i64 k ∧ Hid (AtD (l.take k) D) ∧ Sep No w wr [blkI w.heap.size 25 #[.slice AO nO cO, .slice AR nR cR], blkI (w.heap.size + 1) 25 #[.slice none 0 0, .slice none 0 0], imL (w.heap.size + 1 + 1) k D, blkI (w.heap.size + 1 + 1 + 1) 165 #[.map (some (w.heap.size + 1 + 1))]]) (fun s _ => nl - (intOf s).toNat)
  case atStart => exact ⟨0, .map [], by omega, rfl, by rw [List.take_zero]; exact AtD.nil, HS0.out⟩
  case round =>
    clear HS0
    obtain ⟨k, D, hk, rfl, HD, hS⟩ := hrel
    obtain ⟨x1, x2, x3, x4⟩ := hS.rules 3 (g := w.heap.size + 1 + 1 + 1) (t := 165) rfl
    have x5 := x1 0
    by_cases hlt : k < nl
    · have hkl : k < l.length := by rw [HLL.out]; exact hlt
      obtain ⟨ad, hA, _, had, hc⟩ := (hl.below hS.below_).at_ hlt
      have e0 := hc (.int .i64 l[k]) (by simp [ints, List.getElem?_eq_getElem hkl])
      obtain ⟨r1, r2⟩ := HLR.out _ (List.getElem_mem hkl)
      have HT := hide (List.take_succ_eq_append_getElem hkl)
      have HNI := hide (show l[k] ∉ l.take k from fun hm => by
        obtain ⟨j, hj, he⟩ := List.mem_iff_getElem.1 hm
        rw [List.getElem_take] at he
        rw [List.length_take] at hj
        have := (List.nodup_iff_pairwise_ne.1 HND.out)
        rw [List.pairwise_iff_getElem] at this
        exact this j k (by omega) hkl (by omega) he)
      obtain ⟨x, hx⟩ : ∃ x, l[k] = x := ⟨_, rfl⟩
      rw [hx] at e0 r1 r2 HT HNI
      have hwf := wfL (x := x) (by omega) (by omega)
      have hwk := wfL (x := (k : Int)) (by omega) (by omega)
      have HD2 := hide (show AtD (l.take (k + 1)) (D.put (.int .i64 x) (.lit (.int .i64 (k : Int)))) from by
        rw [HT.out]
        have h := HD.out.snoc HNI.out
        rw [List.length_take, Nat.min_eq_left (by omega)] at h
        exact h)
      subst hA
      clear hc hx x1 x4 HD HNI
      go_wp2_with (first
        | (at_mapUpdate
           refine wpList_imLUpd rfl (.tmp 20) (.tmp 21) (.tmp 22) rfl hS 2 rfl (by unfold maxLen; omega) x (k : Int) rfl rfl rfl hwf hwk ?_
           intro w4 hS4))
      go_roundw
      case rel => exact ⟨k + 1, _, by omega, by go_num, HD2, hS4⟩
      case measure => simp [intOf]; omega
    · obtain rfl : k = nl := by omega
      rw [List.take_of_length_le (by rw [HLL.out]; omega)] at HD
      obtain ⟨i1, i2, i3, i4⟩ := hS.rules 0 (g := w.heap.size) (t := 25) rfl
      have i5 := i1 0
      have i6 := i1 1
      have C1 := hide (fun (W : World) (A : Option Addr) (n c : Nat) (vs : List Val) (hB : Blk W (w.heap.size + 1 + 1 + 1) 165 #[.map (some (w.heap.size + 1 + 1))]) (hM : (imL (w.heap.size + 1 + 1) k D).P W) (hn1 : n ≤ 1000) (hv : Rd W (fun _ => True) 2 A n (vals vs)) (hvs : ValsOk nO vs) =>
        turnP_any W (w.heap.size + 1 + 1 + 1) (w.heap.size + 1 + 1) k D A n c nO vs l hn1 (by rw [HLL.out]; exact hnl) hv hB hM HD.out hvs hn)
      have HS5 := hide hS
      clear x1 x2 x3 x4 x5 i1 i4 HD hS
      go_wp2_with fail
      refine (C1.out _ AR nR cR roots (HS5.out.get 3 rfl) (HS5.out.get 2 rfl) hnR (hR.below HS5.out.below_) HVR.out).mono ?_
      rintro e w3 ⟨Ar, cr, rfl, hP⟩
      have hS6 := ((HS5.out.snocNew hP.below_ _ (hP.get 0 rfl) (fun g hg => (hP.lo 0 rfl g hg).resolve_left (fun h => h))).blkAt 25 #[.slice none 0 0, .slice Ar nR cr] (g := w3.heap.size) rfl).nilRow0 83 1
      have HS6 := hide hS6
      clear i2 i3 i5 i6 hP hS6 HS5
      go_wp2_with fail
      go_loopw [32] (fun i wr2 => ∃ (q : Nat) (A' : Option Addr) (c' : Nat) (obs' : List Ob), q ≤ k ∧ i = .int .i64 q ∧ Hid (obs'.map Ob.fields = (renumF fss l).take q) ∧
        Sep No w wr2 (rowI 83 1 A' q c' (obs'.map Ob.val) :: blkI w.heap.size 25 #[.slice AO nO cO, .slice AR nR cR] :: blkI (w.heap.size + 1) 25 #[.slice none 0 0, .slice none 0 0] :: imL (w.heap.size + 1 + 1) k D :: blkI (w.heap.size + 1 + 1 + 1) 165 #[.map (some (w.heap.size + 1 + 1))] :: rowI 86 2 Ar nR cr (vals (roots.map (turnL l))) :: blkI w3.heap.size 25 #[.slice A' q c', .slice Ar nR cr] :: obs'.map obI)) (fun i _ => k - (intOf i).toNat)
      case atStart => exact ⟨0, none, 0, [], by omega, rfl, by simp [Hid], HS6.out⟩
      case round =>
        clear HS6
        obtain ⟨q, A', c', obs', hq, rfl, HO, hS⟩ := hrel
        by_cases hlq : q < k
        · have hkl : q < l.length := by rw [HLL.out]; exact hlq
          obtain ⟨ad, hA, _, had, hc⟩ := (hl.below hS.below_).at_ hlq
          have e0 := hc (.int .i64 l[q]) (by simp [ints, List.getElem?_eq_getElem hkl])
          obtain ⟨r1, r2⟩ := HLR.out _ (List.getElem_mem hkl)
          have HT := hide (renumF_take fss l q hkl)
          obtain ⟨x, hx⟩ := int_nat r1
          rw [hx] at e0 r2 HT
          have hxn : x < nO := by omega
          have hxl : x < obs.length := by rw [HOL.out]; exact hxn
          obtain ⟨ad2, hA2, _, had2, hc2⟩ := (hO.below hS.below_).row.at_ hxn
          have e1 := hc2 obs[x].val (by simp [List.getElem?_eq_getElem hxl])
          have hEach := hO.each _ (List.getElem_mem hxl)
          have hFl := hO.flen (List.getElem_mem hxl)
          have hfi : fieldsI fss (x : Int) = obs[x].fields := by
            unfold fieldsI
            rw [← H3.out, List.getD_eq_getElem?_getD]
            simp [List.getElem?_eq_getElem hxl]
          have hfm : obs[x].fields ∈ fss := by rw [← H3.out]; exact List.mem_map.2 ⟨_, List.getElem_mem hxl, rfl⟩
          have hfb := HF.out _ hfm
          have hvb := HVG.out _ hfm
          obtain ⟨o, ho⟩ : ∃ o, obs[x] = o := ⟨_, rfl⟩
          rw [hfi] at HT
          rw [ho] at e1 hEach hFl hfb hvb HT
          unfold Ob.val at e1
          rw [hFl] at hfb
          have C := hide (fun W (hb : Below w.heap.size w W) (hB : Blk W (w.heap.size + 1 + 1 + 1) 165 #[.map (some (w.heap.size + 1 + 1))]) (hM : (imL (w.heap.size + 1 + 1) k D).P W) => C1.out W o.A o.n o.c o.fields hB hM hfb (hEach.below hb) hvb)
          obtain ⟨i1, i2, i3, i4⟩ := hS.rules 1 (g := w.heap.size) (t := 25) rfl
          obtain ⟨j1, j2, j3, j4⟩ := hS.rules 6 (g := w3.heap.size) (t := 25) rfl
          have i5 : wr.cell? ⟨w.heap.size, 0, none⟩ = some (.slice AO nO cO) := by rw [i1]; rfl
          have j5 : wr.cell? ⟨w3.heap.size, 0, none⟩ = some (.slice A' q c') := by rw [j1]; rfl
          have i0 : (0 : Int) ≤ x := by omega
          have hq0 : (0 : Int) ≤ (q : Int) := by omega
          have hq1 : (q : Int) < (k : Int) := by omega
          subst hA hA2
          have HS := hide hS
          clear hc hc2 r1 r2 hx hfi hFl hfb hEach ho hS i1 j1 i4 j4 had2 hfm hvb
          go_wp2_with fail
          clear e0
          go_region_law (first
            | (refine step_app1 (cs := #[.slice A5 o.n c5]) rfl (.tmp 37) (.tmp 47) 22 rfl (F := No) (W := w) sObj (items := _ :: _ :: _ :: _ :: _ :: _ :: _ :: _) hS5 0 (n := q) rfl rfl rfl (by simp) rfl rfl (by omega) ?_
               intro A7 c7 w7 hS7 hC7
               obtain ⟨z1, z2, z3, z4⟩ := hS7.rules 6 (g := w3.heap.size) (t := 25) rfl
               (have z5 : w7.cell? ⟨w3.heap.size, 0, none⟩ = some (.slice A' q c') := by rw [z1]; rfl)
               clear z1 z4)
            | (try go_simp
               go_at_call 125
               refine (C.out wr.drew HS.out.drew.below_ (HS.out.drew.get 4 rfl) (HS.out.drew.get 3 rfl)).mono ?_
               rintro e w4 ⟨A5, c5, rfl, hP5⟩
               have hS5 := HS.out.drew.snocNew hP5.below_ _ (hP5.get 0 rfl) (fun g hg => (hP5.lo 0 rfl g hg).resolve_left (fun h => h))
               obtain ⟨x1, x2, x3, x4⟩ := hS5.rules 6 (g := w3.heap.size) (t := 25) rfl
               (have x5 : w4.cell? ⟨w3.heap.size, 0, none⟩ = some (.slice A' q c') := by rw [x1]; rfl)
               clear x1 x4))
          all_goals
            go_wp2_with fail
            go_roundw
            case rel =>
              refine ⟨q + 1, A7, c7, obs' ++ [⟨A5, o.n, c5, o.fields.map (turnL l)⟩], by omega, by go_num, ?_, ?_⟩
              · show _ = _
                rw [HT.out, ← HO.out]
                simp
              · rw [obs_snoc_, List.map_append]
                exact hS7.set_ 6 (g := w3.heap.size) (t := 25) rfl 0 (.slice A7 (q + 1) c7)
            case measure => simp [intOf]; omega
        · obtain rfl : q = k := by omega
          have hO2 : obs'.map Ob.fields = renumF fss l := by
            rw [HO.out]; exact List.take_of_length_le (by unfold renumF; rw [List.length_map, HLL.out]; omega)
          have HO2 := hide hO2
          obtain ⟨j1, j2, j3, j4⟩ := hS.rules 6 (g := w3.heap.size) (t := 25) rfl
          obtain ⟨y1, y2, y3, y4⟩ := hS.rules 2 (g := w.heap.size + 1) (t := 25) rfl
          have HS := hide hS
          clear hO2 hS HO
          go_wp2_with fail
          have hF := (HS.out.set_ 2 (g := w.heap.size + 1) (t := 25) rfl 0 (.slice A' q c')).set_ 2 (g := w.heap.size + 1) (t := 25) rfl 1 (.slice Ar nR cr)
          refine bodyPost_ret (v := .agg #[.slice A' q c', .slice Ar nR cr]) (by simp [results, Try.results87, go_sem, y1]) rfl ⟨_, rfl, hF.below_, ?_⟩
          refine ⟨_, _, _, _, _, _, obs', rfl, obs_read hF (fun o ho => ?_) 0 rfl, HO2.out, hF.rd 5 rfl⟩
          simp only [List.set_cons_succ, List.set_cons_zero, List.mem_cons, List.mem_map]
          exact .inr (.inr (.inr (.inr (.inr (.inr (.inr ⟨o, ho, rfl⟩))))))
end Go.Proofs.Ytaajkldhnjoicaa
