/- Share: values turned by lots; the program's closure and the reference's lots. Share, plain: the lots; objects' rows that lie together; a graph that is made. -/
import Derived.Test.YtikaaekhghcodaaSShareTells4
import Derived.Test.YtikaaekhghcodaaSShareTells9
set_option linter.unusedSimpArgs false
set_option linter.unusedVariables false
namespace Go.Proofs.Ytikaaekhghcodaa
open Go.RowKit
/-- A value, turned by lots. -/
def turnV (lot : List Nat) (v : Val) : Val := (v.1, if v.1 = true then ((lot.getD v.2.toNat 0 : Nat) : Int) else v.2)
theorem turnV_no {lot : List Nat} {x : Int} : turnV lot (false, x) = (false, x) := rfl
theorem turnV_yes {lot : List Nat} {z : Nat} (h : z < lot.length) : turnV lot (true, (z : Int)) = (true, (lot[z] : Int)) := by
  unfold turnV
  simp [List.getD_eq_getElem?_getD, h]
set_option maxRecDepth 100000 in
set_option maxHeartbeats 1600000 in
theorem lots_any (w : World) (A Al : Option Addr) (n c nl cl : Nat) (vs : List Val) (lot : List Nat) (hn : n ≤ 1000) (hV : Rd w (fun _ => True) 2 A n (vals vs)) (hL : Rd w (fun _ => True) 1 Al nl (nts lot)) (hr : ∀ v ∈ vs, v.1 = true → 0 ≤ v.2 ∧ v.2 < (nl : Int)) :
    Calls Try.prog 22 #[.slice A n c, .slice Al nl cl] w fun e w' => ∃ A' c', e = .returned (.slice A' n c') ∧ Sep No w w' [rowI 48 2 A' n c' (vals (vs.map (turnV lot)))] := by
  have HLL := hide (show vs.length = n by have := hV.1; rw [vals_length] at this; omega)
  have HLN := hide (show lot.length = nl by have := hL.1; simpa [nts] using this)
  have HR := hide hr
  have HS0 := hide ((Sep.nil No w).nilRow 48 2)
  clear hr
  go_enter Try.func22, Try.ntmps22
  go_wp2_with fail
  go_loopw [5, 10] (fun s5 i wr => ∃ (k : Nat) (A' : Option Addr) (c' : Nat), k ≤ n ∧ i = .int .i64 k ∧ s5 = .slice A' k c' ∧ Sep No w wr [rowI 48 2 A' k c' (vals ((vs.take k).map (turnV lot)))]) (fun _ i _ => n - (intOf i).toNat)
  case atStart => exact ⟨0, none, 0, by omega, rfl, rfl, HS0.out⟩
  case round =>
    clear HS0
    obtain ⟨k, A', c', hk, rfl, rfl, hQ⟩ := hrel
    by_cases hlt : k < n
    · have hkl : k < vs.length := by rw [HLL.out]; exact hlt
      obtain ⟨v1, v2⟩ := vals_at vs k hkl
      obtain ⟨ad, hA, _, had, hc, hd⟩ := (hV.below hQ.below_).atN hlt
      have e0 := hc _ v1
      have e1 := hd 0 _ v2
      have hi := HR.out _ (List.getElem_mem hkl)
      have HT := hide (List.take_succ_eq_append_getElem hkl)
      obtain ⟨⟨b, x⟩, hx⟩ : ∃ x, vs[k] = x := ⟨_, rfl⟩
      rw [hx] at e0 e1 hi HT
      dsimp only at e0 e1 hi
      subst hA
      clear hc hd hx v1 v2
      cases b with
      | false =>
        clear hi
        go_wp2_with (at_builtin
                     refine wpList_app1 (cs := #[.bool false, .int .i64 x]) rfl (.tmp 22) (.tmp 24) 23 rfl sVal (hQ.alloc _) 0 (n := k) rfl rfl rfl (by simp) rfl rfl (by omega) ?_
                     intro A4 c4 w4 hS4 hC4)
        go_roundw
        case rel => exact ⟨k + 1, A4, c4, by omega, by go_num, rfl, by rw [HT.out, List.map_append, List.map_cons, List.map_nil, turnV_no, vals_snoc]; exact hS4⟩
        case measure => simp [intOf]; omega
      | true =>
        obtain ⟨hi1, hi2⟩ := hi rfl
        obtain ⟨z, rfl⟩ : ∃ z : Nat, x = (z : Int) := ⟨x.toNat, by omega⟩
        have hzn : z < nl := by omega
        have hzl : z < lot.length := by rw [HLN.out]; exact hzn
        obtain ⟨al, hAl, _, hal, hcl⟩ := (hL.below (hQ.alloc (.cells #[.bool true, .int .i64 (z : Int)] 48)).below_).at_ hzn
        have e2 := hcl (.int .i64 (lot[z] : Int)) (by simp [nts, ints, List.getElem?_eq_getElem hzl])
        have HTV := hide (turnV_yes hzl)
        obtain ⟨y, hy⟩ : ∃ y, lot[z] = y := ⟨_, rfl⟩
        rw [hy] at e2 HTV
        rw [hAl]
        have HA := hide hAl
        clear hcl hy hi hAl
        go_wp2_with (at_builtin
                     refine wpList_app1 (cs := #[.bool true, .int .i64 (y : Int)]) rfl (.tmp 22) (.tmp 24) 23 rfl sVal (hQ.alloc _) 0 (n := k) rfl rfl rfl (by simp) rfl rfl (by omega) ?_
                     intro A4 c4 w4 hS4 hC4)
        go_roundw
        case rel => exact ⟨k + 1, A4, c4, by omega, by go_num, rfl, by rw [HT.out, List.map_append, List.map_cons, List.map_nil, HTV.out, vals_snoc]; exact hS4⟩
        case measure => simp [intOf]; omega
    · obtain rfl : k = n := by omega
      rw [show vs.take k = vs from List.take_of_length_le (by rw [HLL.out]; omega)] at hQ
      go_wp2_with fail
      go_ret
      exact ⟨A', c', rfl, hQ⟩
set_option maxRecDepth 100000 in
set_option maxHeartbeats 1600000 in
theorem sturn_any (w : World) (bl : Nat) (A Al : Option Addr) (n c nl cl : Nat) (vs : List Val) (lot : List Nat) (hn : n ≤ 1000) (hV : Rd w (fun _ => True) 2 A n (vals vs)) (hL : Rd w (fun _ => True) 1 Al nl (nts lot)) (hbl : Blk w bl 26 #[.slice Al nl cl]) (hr : ∀ v ∈ vs, v.1 = true → 0 ≤ v.2 ∧ v.2 < (nl : Int)) :
    Calls Try.prog 20 #[.slice A n c, .pointer (some ⟨bl, 0, none⟩)] w fun e w' => ∃ A' c', e = .returned (.slice A' n c') ∧ Sep No w w' [rowI 48 2 A' n c' (vals (vs.map (turnV lot)))] := by
  have HLL := hide (show vs.length = n by have := hV.1; rw [vals_length] at this; omega)
  have HLN := hide (show lot.length = nl by have := hL.1; simpa [nts] using this)
  have HR := hide hr
  have HS0 := hide ((Sep.nil No w).nilRow 48 2)
  clear hr
  go_enter Try.func20, Try.ntmps20
  go_wp2_with fail
  go_loopw [4, 9] (fun s5 i wr => ∃ (k : Nat) (A' : Option Addr) (c' : Nat), k ≤ n ∧ i = .int .i64 k ∧ s5 = .slice A' k c' ∧ Sep No w wr [rowI 48 2 A' k c' (vals ((vs.take k).map (turnV lot)))]) (fun _ i _ => n - (intOf i).toNat)
  case atStart => exact ⟨0, none, 0, by omega, rfl, rfl, HS0.out⟩
  case round =>
    clear HS0
    obtain ⟨k, A', c', hk, rfl, rfl, hQ⟩ := hrel
    by_cases hlt : k < n
    · have hkl : k < vs.length := by rw [HLL.out]; exact hlt
      obtain ⟨v1, v2⟩ := vals_at vs k hkl
      obtain ⟨ad, hA, _, had, hc, hd⟩ := (hV.below hQ.below_).atN hlt
      have e0 := hc _ v1
      have e1 := hd 0 _ v2
      have hi := HR.out _ (List.getElem_mem hkl)
      have HT := hide (List.take_succ_eq_append_getElem hkl)
      obtain ⟨⟨b, x⟩, hx⟩ : ∃ x, vs[k] = x := ⟨_, rfl⟩
      rw [hx] at e0 e1 hi HT
      dsimp only at e0 e1 hi
      subst hA
      clear hc hd hx v1 v2
      cases b with
      | false =>
        clear hi
        go_wp2_with (at_builtin
                     refine wpList_app1 (cs := #[.bool false, .int .i64 x]) rfl (.tmp 21) (.tmp 23) 23 rfl sVal (hQ.alloc _) 0 (n := k) rfl rfl rfl (by simp) rfl rfl (by omega) ?_
                     intro A4 c4 w4 hS4 hC4)
        go_roundw
        case rel => exact ⟨k + 1, A4, c4, by omega, by go_num, rfl, by rw [HT.out, List.map_append, List.map_cons, List.map_nil, turnV_no, vals_snoc]; exact hS4⟩
        case measure => simp [intOf]; omega
      | true =>
        obtain ⟨hi1, hi2⟩ := hi rfl
        obtain ⟨z, rfl⟩ : ∃ z : Nat, x = (z : Int) := ⟨x.toNat, by omega⟩
        have hzn : z < nl := by omega
        have hzl : z < lot.length := by rw [HLN.out]; exact hzn
        obtain ⟨al, hAl, _, hal, hcl⟩ := (hL.below (hQ.alloc (.cells #[.bool true, .int .i64 (z : Int)] 48)).below_).at_ hzn
        have e2 := hcl (.int .i64 (lot[z] : Int)) (by simp [nts, ints, List.getElem?_eq_getElem hzl])
        have HTV := hide (turnV_yes hzl)
        obtain ⟨y, hy⟩ : ∃ y, lot[z] = y := ⟨_, rfl⟩
        rw [hy] at e2 HTV
        obtain ⟨b1, b2, b3⟩ := (hbl.below_ hQ.below_).rules
        have b4 := (b1 0).trans (show _ = some (.slice Al nl cl) from rfl)
        subst hAl
        clear hcl hy hi b1
        go_wp2_with (at_builtin
                     refine wpList_app1 (cs := #[.bool true, .int .i64 (y : Int)]) rfl (.tmp 21) (.tmp 23) 23 rfl sVal (hQ.alloc _) 0 (n := k) rfl rfl rfl (by simp) rfl rfl (by omega) ?_
                     intro A4 c4 w4 hS4 hC4)
        go_roundw
        case rel => exact ⟨k + 1, A4, c4, by omega, by go_num, rfl, by rw [HT.out, List.map_append, List.map_cons, List.map_nil, HTV.out, vals_snoc]; exact hS4⟩
        case measure => simp [intOf]; omega
    · obtain rfl : k = n := by omega
      rw [show vs.take k = vs from List.take_of_length_le (by rw [HLL.out]; omega)] at hQ
      go_wp2_with fail
      go_ret
      exact ⟨A', c', rfl, hQ⟩
end Go.Proofs.Ytikaaekhghcodaa

namespace Go.Proofs.Ytikaaekhghcodaa
open Go.RowKit
def atOf (ap : Nat → Nat → Bool) (fs : List Nat) (i : Nat) : Nat := fs.findIdx fun f => !ap f i
def lotStep (ap : Nat → Nat → Bool) (s : List Nat × List Nat) (i : Nat) : List Nat × List Nat := (if atOf ap s.1 i = s.1.length then s.1 ++ [i] else s.1, s.2 ++ [atOf ap s.1 i])
def lotN (ap : Nat → Nat → Bool) (n : Nat) : List Nat × List Nat := (List.range n).foldl (lotStep ap) ([], [])
theorem lotN_succ (ap : Nat → Nat → Bool) (n : Nat) : lotN ap (n + 1) = lotStep ap (lotN ap n) n := by unfold lotN; rw [List.range_succ, List.foldl_append]; rfl
theorem lotN_ok (ap : Nat → Nat → Bool) : ∀ n, (lotN ap n).2.length = n ∧ (lotN ap n).1.length ≤ n ∧ ∀ f ∈ (lotN ap n).1, f < n
  | 0 => ⟨rfl, Nat.le_refl _, fun f hf => by cases hf⟩
  | n + 1 => by
    obtain ⟨h1, h2, h3⟩ := lotN_ok ap n
    rw [lotN_succ]
    unfold lotStep
    refine ⟨by simp [h1], ?_, fun f hf => ?_⟩
    · dsimp only
      split
      · simp; omega
      · omega
    · dsimp only at hf
      split at hf
      · rcases List.mem_append.1 hf with hf | hf
        · have := h3 f hf; omega
        · have := List.mem_singleton.1 hf; omega
      · have := h3 f hf; omega
theorem atOf_found {ap : Nat → Nat → Bool} {fs : List Nat} {i k : Nat} (hk : k < fs.length) (h : ∀ (j : Nat) (hj : j < fs.length), j < k → ap fs[j] i = true) (h1 : ap fs[k] i = false) : atOf ap fs i = k := by
  unfold atOf
  rw [List.findIdx_eq hk]
  exact ⟨by rw [h1]; rfl, fun j hj => by rw [h j (by omega) hj]; rfl⟩
theorem atOf_none {ap : Nat → Nat → Bool} {fs : List Nat} {i k : Nat} (hk : fs.length ≤ k) (h : ∀ (j : Nat) (hj : j < fs.length), j < k → ap fs[j] i = true) : atOf ap fs i = fs.length := by
  unfold atOf
  rw [List.findIdx_eq_length]
  intro f hf
  obtain ⟨j, hj, rfl⟩ := List.mem_iff_getElem.1 hf
  rw [h j hj (by omega)]; rfl
theorem lot_old {ap : Nat → Nat → Bool} {i k : Nat} (hk : k < (lotN ap i).1.length) (h : ∀ (j : Nat) (hj : j < (lotN ap i).1.length), j < k → ap (lotN ap i).1[j] i = true) (h1 : ap (lotN ap i).1[k] i = false) : lotN ap (i + 1) = ((lotN ap i).1, (lotN ap i).2 ++ [k]) := by
  rw [lotN_succ]
  unfold lotStep
  rw [atOf_found hk h h1, if_neg (by omega)]
theorem lot_new {ap : Nat → Nat → Bool} {i k : Nat} (hk : (lotN ap i).1.length ≤ k) (h : ∀ (j : Nat) (hj : j < (lotN ap i).1.length), j < k → ap (lotN ap i).1[j] i = true) : lotN ap (i + 1) = ((lotN ap i).1 ++ [i], (lotN ap i).2 ++ [(lotN ap i).1.length]) := by
  rw [lotN_succ]
  unfold lotStep
  rw [atOf_none hk h, if_pos rfl]
/-- Who is told apart. -/
def apR (gs : List (List Val)) (f i : Nat) : Bool := (toldR gs (f, i)).2
def outF (gs : List (List Val)) (lot fs : List Nat) : List (List Val) := fs.map fun f => (gs.getD f []).map (turnV lot)
theorem outF_snoc (gs : List (List Val)) (lot fs : List Nat) (f : Nat) : outF gs lot (fs ++ [f]) = outF gs lot fs ++ [(gs.getD f []).map (turnV lot)] := by simp [outF]
/-! ### Rows of objects. -/
def obsI (T : List Ob) : Item := allI (T.map obI)
theorem obs_nil {F : Nat → Prop} {W w : World} {l : List Item} (h : Sep F W w l) : Sep F W w (obsI [] :: l) := Sep.join (l := []) h
theorem obs_join {F : Nat → Prop} {W w : World} {l : List Item} {T : List Ob} {A : Option Addr} {n c : Nat} {fs : List Val} (h : Sep F W w (rowI 48 2 A n c (vals fs) :: obsI T :: l)) : Sep F W w (obsI (T ++ [⟨A, n, c, fs⟩]) :: l) := by
  have h1 : Sep F W w (T.map obI ++ (rowI 48 2 A n c (vals fs) :: l)) := Sep.split (h.perm (List.Perm.swap _ _ _))
  have h2 : Sep F W w ((T ++ [(⟨A, n, c, fs⟩ : Ob)]).map obI ++ l) := by
    rw [List.map_append, List.append_assoc]
    exact h1
  exact Sep.join h2
theorem graphRd_made {W w : World} {l : List Item} {T : List Ob} {AO AR : Option Addr} {n c nR cR : Nat} {roots : List Val} (h : Sep No W w (obsI T :: rowI 50 1 AO n c (T.map Ob.val) :: rowI 48 2 AR nR cR (vals roots) :: l)) :
    GraphRd w (fun g => W.heap.size ≤ g) (.agg #[.slice AO n c, .slice AR nR cR]) (T.map Ob.fields) roots := by
  have h1 : Sep No W w ((rowI 50 1 AO n c (T.map Ob.val) :: rowI 48 2 AR nR cR (vals roots) :: l) ++ T.map obI) := (Sep.split h).perm List.perm_append_comm
  exact ⟨AO, n, c, AR, nR, cR, T, rfl, obs_read h1 (fun o ho => List.mem_append_right _ (List.mem_map.2 ⟨o, ho, rfl⟩)) 0 rfl, rfl, h1.rd 1 rfl⟩
theorem ob_at3 {w : World} {D : Nat → Prop} {AO : Option Addr} {nO : Nat} {obs : List Ob} (hO : ObsRd w D AO nO obs) (hfl : ∀ o ∈ obs, o.n ≤ 4) {i : Nat} (hi : i < nO) :
    ∃ (ad : Addr) (o : Ob), o ∈ obs ∧ AO = some ad ∧ ad.block < w.heap.size ∧ (obs.map Ob.val)[i]? = some (.slice o.A o.n o.c) ∧ Rd w D 2 o.A o.n (vals o.fields) ∧ (obs.map Ob.fields).getD i [] = o.fields ∧ o.n ≤ 4 ∧ o.fields.length = o.n := by
  have hil : i < obs.length := by rw [hO.len]; exact hi
  obtain ⟨ad, hA, hd, had, hc⟩ := hO.row.at_ hi
  refine ⟨ad, obs[i], List.getElem_mem hil, hA, had, by simp [List.getElem?_eq_getElem hil, Ob.val], hO.each _ (List.getElem_mem hil), ?_, hfl _ (List.getElem_mem hil), hO.flen (List.getElem_mem hil)⟩
  rw [List.getD_eq_getElem?_getD]
  simp [List.getElem?_eq_getElem hil]
theorem ob_cell {w : World} {D : Nat → Prop} {ad : Addr} {nO : Nat} {obs : List Ob} (hO : ObsRd w D (some ad) nO obs) {i : Nat} (hi : i < nO) {v : Value} (h : (obs.map Ob.val)[i]? = some v) : w.cell? (ad.add i) = some v := by
  obtain ⟨ad', hA, _, _, hc⟩ := hO.row.at_ hi
  obtain rfl : ad = ad' := by injection hA
  exact hc _ h
theorem vals_snoc_ob (T : List Ob) (o : Ob) : (T ++ [o]).map Ob.val = T.map Ob.val ++ (#[.slice o.A o.n o.c] : Array Value).toList := by simp [Ob.val]
theorem nts_at {w : World} {n c : Nat} {ad : Addr} {u : List Nat} (h : (rowI 3 1 (some ad) n c (nts u)).P w) {i : Nat} (hi : i < n) (hu : i < u.length) : w.cell? (ad.add i) = some (.int .i64 (u[i] : Int)) ∧ ad.block < w.heap.size := by
  obtain ⟨ad', h1, _, h2, h3⟩ := (Rd.of_own (D := fun _ => True) (show w.ownsRow 0 3 1 (.slice (some ad) n c) n (nts u) from h) (fun _ _ => trivial)).at_ hi
  obtain rfl : ad = ad' := by injection h1
  exact ⟨h3 _ (by simp [nts, ints, List.getElem?_eq_getElem hu]), h2⟩
theorem nts_some {w : World} {n c : Nat} {A : Option Addr} {u : List Nat} (h : (rowI 3 1 A n c (nts u)).P w) (hn : 0 < n) : ∃ ad, A = some ad := by
  obtain ⟨ad, h1, _⟩ := (Rd.of_own (D := fun _ => True) (show w.ownsRow 0 3 1 (.slice A n c) n (nts u) from h) (fun _ _ => trivial)).at_ hn
  exact ⟨ad, h1⟩
end Go.Proofs.Ytikaaekhghcodaa
