/- slices.SortFunc of numbers by what a list says of each: the row, plain. slices.SortFunc of no numbers; cmp.Compare. A memory with so many words: the row of objects by place; where there is room. -/
import Derived.Shelf.SlSortCmp.Whole1
import Derived.Test.YtjphckfbbiehdaaGIdealPlays1
import Derived.Test.YtjphckfbbiehdaaGTopIdeal1
set_option linter.unusedSimpArgs false
set_option linter.unusedVariables false
namespace Go.Proofs.Ytjphckfbbiehdaa
open Go.RowKit Go.Sort Go.Lib

def encF (i : Fin 1000) : Value := .int .i64 (i.val : Int)
def finL (l : List Int) : List (Fin 1000) := l.map fun x => Fin.ofNat 1000 x.toNat
def unF (l : List (Fin 1000)) : List Int := l.map fun i => (i.val : Int)
theorem unF_finL {l : List Int} (h : ∀ x ∈ l, 0 ≤ x ∧ x < 1000) : unF (finL l) = l := by
  unfold unF finL
  rw [List.map_map]
  refine (List.map_congr_left fun x hx => ?_).trans (List.map_id' l)
  have := h x hx
  show (((Fin.ofNat 1000 x.toNat).val : Nat) : Int) = x
  simp [Fin.ofNat]
  omega
theorem encF_map (l : List (Fin 1000)) : l.map encF = ints (unF l) := by
  unfold unF ints; rw [List.map_map]; rfl
theorem encF_one : OneCell encF := fun _ => rfl
def cfF (f : Int → Int) (x y : Fin 1000) : Int := compareInt (f (x.val : Int)) (f (y.val : Int))
theorem ltOf_cfF (f : Int → Int) (x y : Fin 1000) : ltOf (cfF f) x y = decide (f (x.val : Int) < f (y.val : Int)) := by
  unfold ltOf cfF compareInt
  by_cases h1 : f (x.val : Int) < f (y.val : Int)
  · simp [h1]
  · by_cases h2 : f (x.val : Int) > f (y.val : Int)
    · simp [h1, h2]
    · simp [h1, h2]
theorem swo_cfF (f : Int → Int) : SWO (ltOf (cfF f)) where
  irrefl x := by rw [ltOf_cfF]; simp
  trans x y z h1 h2 := by rw [ltOf_cfF] at *; simp at *; omega
  ntrans x y z h1 h2 := by rw [ltOf_cfF] at *; simp at *; omega
/-- What the sort leaves: the same numbers, in order. -/
theorem sorted_unF {f : Int → Int} {d d' : Array (Fin 1000)} (hp : PermIn 0 d.size d d') (hs : SortedIn (ltOf (cfF f)) 0 d.size d') : (unF d'.toList).Perm (unF d.toList) ∧ (unF d'.toList).Pairwise (fun x y => f x ≤ f y) ∧ d'.size = d.size := by
  obtain ⟨h1, _, h3⟩ := hp
  have e1 : d'.extract 0 d.size = d' := by rw [← h1]; simp
  have e2 : d.extract 0 d.size = d := by simp
  rw [e1, e2] at h3
  refine ⟨h3.map _, ?_, h1⟩
  unfold unF
  rw [List.pairwise_map, List.pairwise_iff_getElem]
  intro i j hi hj hij
  rw [Array.length_toList] at hi hj
  have h4 := hs i j (Nat.zero_le _) hij (by omega)
  rw [ltOf_cfF, getElem!_pos d' i hi, getElem!_pos d' j hj] at h4
  simp only [Array.getElem_toList]
  simpa using h4
theorem size_sortW {α : Type} [Inhabited α] (enc : α → Value) (w : World) (g k : Nat) (d : Array α) (os : Array Obj) : (sortWorld enc w g 0 k d os).heap.size = w.heap.size + os.size := by simp [sortWorld, grow, putRow, mapBlock, Sort.ahead]
theorem block_sortW {α : Type} [Inhabited α] (enc : α → Value) (w : World) (g k : Nat) (d : Array α) (os : Array Obj) (j : Nat) (hj : j < w.heap.size) (hne : j ≠ g) : (sortWorld enc w g 0 k d os).heap[j]? = w.heap[j]? := by
  show ((w.heap.modify g _) ++ os)[j]? = _
  rw [Array.getElem?_append_left (by simpa using hj), Array.getElem?_modify, if_neg (fun h => hne h.symm)]
/-- Nothing but the row's block turns. -/
theorem chg_sortW {α : Type} [Inhabited α] (enc : α → Value) (w : World) (g k : Nat) (d : Array α) (os : Array Obj) : Chg (fun j => j = g) w (sortWorld enc w g 0 k d os) :=
  ⟨rfl, rfl, rfl, by rw [size_sortW]; omega, fun j hj hn => block_sortW enc w g k d os j hj hn⟩
/-- A row that the library has laid anew. -/
theorem row_sortW {α : Type} [Inhabited α] (enc : α → Value) {w : World} {e g n c k : Nat} {l : List Value} {d : Array α} {os : Array Obj} (hs : (rowI e 1 (some ⟨g, 0, none⟩) n c l).P w) (hd : d.size = l.length) :
    (rowI e 1 (some ⟨g, 0, none⟩) n c (d.toList.map enc)).P (sortWorld enc w g 0 k d os) := by
  have hrow : w.ownsRow 0 e 1 (.slice (some ⟨g, 0, none⟩) n c) n l := hs
  have hlt : g < w.heap.size := (hrow.lt g rfl).2
  have hln : l.length = n := by have := hrow.1; simpa using this
  obtain ⟨h1, h2⟩ := hrow
  rcases h2 with ⟨hv, _⟩ | ⟨g', cap, cur, hv, _, hh, hnc, hcm, hcs, htk⟩
  · cases hv
  · injection hv with e1 e2 e3
    injection e1 with e1
    injection e1 with e1
    subst e1; subst e3
    have hg : (sortWorld enc w g 0 k d os).heap[g]? = some (.cells (putCells enc 0 d cur) e (0, 0)) := by
      show ((w.heap.modify g _) ++ os)[g]? = _
      rw [Array.getElem?_append_left (by simpa using hlt), Array.getElem?_modify, if_pos rfl, hh]
      rfl
    refine ⟨by simp; omega, .inr ⟨g, c, _, rfl, Nat.zero_le _, hg, hnc, hcm, by simp [putCells]; omega, ?_⟩⟩
    refine List.ext_getElem? fun j => ?_
    rw [List.getElem?_take]
    by_cases hj : j < n
    · rw [if_pos (by omega)]
      have hjc : j < cur.size := by omega
      simp only [putCells, Array.getElem?_toList, Array.getElem?_mapIdx, Array.getElem?_eq_getElem hjc, Option.map_some]
      rw [if_pos (by simp; omega)]
      have hjd : j < d.size := by omega
      simp [Array.getElem?_eq_getElem hjd, getElem!_pos d j hjd]
    · rw [if_neg (by omega)]
      rw [List.getElem?_eq_none (by simp; omega)]
theorem holds_rowF {w : World} {e g n c : Nat} {l : List (Fin 1000)} (hs : (rowI e 1 (some ⟨g, 0, none⟩) n c (ints (unF l))).P w) : Holds encF w g 0 l.toArray ∧ g < w.heap.size ∧ l.length = n := by
  have hrow : w.ownsRow 0 e 1 (.slice (some ⟨g, 0, none⟩) n c) n (ints (unF l)) := hs
  have hln : l.length = n := by have := hrow.1; simpa [ints, unF] using this
  refine ⟨fun j hj => ?_, (hrow.lt g rfl).2, hln⟩
  have hj2 : j < l.length := by simpa using hj
  rw [Nat.zero_add]
  refine ⟨?_, hrow.frozenAt j⟩
  rw [hrow.cellAt j (by omega)]
  simp [ints, unF, encF, List.getElem?_eq_getElem hj2]
end Go.Proofs.Ytjphckfbbiehdaa

namespace Go.Proofs.Ytjphckfbbiehdaa
open Go.RowKit Go.Shelf

set_option maxHeartbeats 2000000 in
theorem insNil_any (p : Option Addr) (cap : Nat) (fv : Value) (w : World) : Calls Try.prog 213 #[.slice p 0 cap, .int .i64 0, .int .i64 0, fv] w fun e w' => e = .returned (.tuple #[]) ∧ w' = w := by
  go_enter Try.func213, Try.ntmps213
  go_wp2_with fail
  refine wp_loop_rounds 1 ?_
  rw [rounds_succ]
  go_wp2_with fail
  go_end0
  exact ⟨rfl, rfl⟩
set_option maxHeartbeats 2000000 in
theorem pdqNil_any (p : Option Addr) (cap : Nat) (lim : Int) (fv : Value) (w : World) : Calls Try.prog 193 #[.slice p 0 cap, .int .i64 0, .int .i64 0, .int .i64 lim, fv] w fun e w' => e = .returned (.tuple #[]) ∧ w' = w := by
  go_enter Try.func193, Try.ntmps193
  go_wp2_with fail
  refine wp_loop_rounds 1 ?_
  rw [rounds_succ]
  go_wp2_with (go_at_call 213; refine (insNil_any _ _ _ _).mono ?_; rintro e w' ⟨rfl, rfl⟩)
  (try simp only [Exit.inBlock, Exit.then]); refine bodyPost_ret (results_none rfl _ _ _) rfl ?_
  exact ⟨rfl, rfl⟩
theorem bitsLen0_any (w : World) : Calls Try.prog 149 #[.int .u64 0] w fun e w' => e = .returned (.int .i64 (Lib.bitLen 0 : Nat)) ∧ w' = w := by
  have h := Any.bits_Len (SlLaysF0.n15.bits (P := Try.prog) (ρ := shelf_laysSlF6_f159_ren) { shelf_laysSlF6_f159 with }) 0 w (by omega) (by omega)
  exact h
set_option maxHeartbeats 2000000 in
theorem sortNil_any (p : Option Addr) (cap : Nat) (fv : Value) (w : World) : Calls Try.prog 159 #[.slice p 0 cap, fv] w fun e w' => e = .returned (.tuple #[]) ∧ w' = w := by
  have hl := hide bitsLen0_any
  go_enter Try.func159, Try.ntmps159
  go_wp2_with (first | (go_at_call 149; refine (hl.out _).mono ?_; rintro e w' ⟨rfl, rfl⟩) | (go_at_call 193; refine (pdqNil_any _ _ _ _ _).mono ?_; rintro e w' ⟨rfl, rfl⟩))
  go_end0
  exact ⟨rfl, rfl⟩
set_option maxHeartbeats 2000000 in
theorem isNaN_any (x : Int) (w : World) : Calls Try.prog 150 #[.int .i64 x] w fun e w' => e = .returned (.bool false) ∧ w' = w := by
  go_enter Try.func150, Try.ntmps150
  go_wp2_with fail
  go_ret
  exact ⟨by first | rfl | simp, rfl⟩
set_option maxHeartbeats 4000000 in
theorem compare_any (x y : Int) (w : World) : Calls Try.prog 92 #[.int .i64 x, .int .i64 y] w fun e w' => e = .returned (.int .i64 (Lib.compareInt x y)) ∧ w' = w := by
  obtain ⟨z, hz⟩ : ∃ z, Lib.compareInt x y = z := ⟨_, rfl⟩
  rw [hz]
  unfold Lib.compareInt at hz
  have CN := isNaN_any
  by_cases h1 : x < y
  · have t1 : decide (x < y) = true := by simp [h1]
    rw [if_pos h1] at hz
    subst hz
    go_enter Try.func92, Try.ntmps92
    go_wp2_with (go_at_call 150; refine (CN _ _).mono ?_; rintro e w' ⟨rfl, rfl⟩)
    go_ret
    exact ⟨rfl, rfl⟩
  · have t1 : decide (x < y) = false := by simp only [h1, decide_false]
    rw [if_neg h1] at hz
    by_cases h2 : y < x
    · have t2 : decide (y < x) = true := by simp [h2]
      rw [if_pos h2] at hz
      subst hz
      go_enter Try.func92, Try.ntmps92
      go_wp2_with (go_at_call 150; refine (CN _ _).mono ?_; rintro e w' ⟨rfl, rfl⟩)
      go_ret
      exact ⟨rfl, rfl⟩
    · have t2 : decide (y < x) = false := by simp only [h2, decide_false]
      rw [if_neg h2] at hz
      subst hz
      go_enter Try.func92, Try.ntmps92
      go_wp2_with (go_at_call 150; refine (CN _ _).mono ?_; rintro e w' ⟨rfl, rfl⟩)
      go_ret
      exact ⟨rfl, rfl⟩
end Go.Proofs.Ytjphckfbbiehdaa

namespace Go.Proofs.Ytjphckfbbiehdaa
open Go.RowKit Go.Maps Go.Shelf Go.Sort

set_option maxRecDepth 100000 in
set_option maxHeartbeats 4000000 in
/-- The closure that the row is sorted by. -/
theorem rowCmp_any (w : World) (Be bx b : Nat) (x y cx cy : Int) (hb : w.cell? ⟨bx, 0, none⟩ = some (.pointer (some ⟨Be, 0, none⟩))) (hm : w.cell? ⟨Be, 2, none⟩ = some (.map (some b)))
    (h1 : ∀ k, (Instr.lookup 99 (.map (some b)) (.int .i64 x) false).run Try.prog (w.drewN k) = .ok (.int .i64 cx) (w.drewN k)) (h2 : ∀ k, (Instr.lookup 99 (.map (some b)) (.int .i64 y) false).run Try.prog (w.drewN k) = .ok (.int .i64 cy) (w.drewN k)) :
    Calls Try.prog 160 #[.int .i64 x, .int .i64 y, .pointer (some ⟨bx, 0, none⟩)] w fun e w' => e = .returned (.int .i64 (Lib.compareInt cx cy)) ∧ ∃ q, w' = w.drewN q := by
  have C := hide (fun w' => compare_any cx cy w')
  generalize Lib.compareInt cx cy = r at C ⊢
  go_enter Try.func160, Try.ntmps160
  go_wp2_with fail
  go_quiet ((with_reducible exact Calls.quiet_of_same (v := .int .i64 r) (C.out _)))
  go_wp2_with fail
  go_ret
  exact ⟨rfl, _, rfl⟩
def atF (D : DataW Unit) (x : Int) : Int := match D.atKey (.int .i64 x) (.lit (.int .i64 0)) with
  | .lit (.int _ z) => z
  | _ => 0
theorem atF_of {D : DataW Unit} {x c : Int} (h : D.atKey (.int .i64 x) (.lit (.int .i64 0)) = .lit (.int .i64 c)) : atF D x = c := by unfold atF; rw [h]
theorem owns_below {w w' : World} {b n : Nat} {D : DataW Unit} (h : w.ownsMap Try.prog 3 (plainElem Try.prog 3) b n D) (hb : Below w.heap.size w w') : w'.ownsMap Try.prog 3 (plainElem Try.prog 3) b n D := by
  have hlt := World.ownsMap.lt h
  obtain ⟨es, clock, hh, r⟩ := h
  exact ⟨es, clock, (hb.block b hlt).trans hh, r⟩

set_option maxRecDepth 100000 in
set_option maxHeartbeats 4000000 in
theorem sortRow_any {F : Nat → Prop} {W1 w0 w : World} {Be Bm bx n c0 : Nat} {c W : Int} {t : RnT} {A : Option Addr} {l : List Int} (hK : Sep F W1 w0 (rnK Be Bm c W t)) (hS : Sep No w0 w [rowI 3 1 A n c0 (ints l), blkI bx 98 #[.pointer (some ⟨Be, 0, none⟩)]]) (hl : ∀ x ∈ l, 0 ≤ x ∧ x < 1000) (hn9 : n ≤ 1000) :
    Calls Try.prog 159 #[.slice A n c0, .func (.func 160) #[] #[.pointer (some ⟨bx, 0, none⟩)]] w fun e w' => e = .returned (.tuple #[]) ∧ ∃ (f : Int → Int) (l' : List Int), l'.Perm l ∧ l'.Pairwise (fun x y => f x ≤ f y) ∧ (∀ x ∈ thereL t.oj.abs, f x = t.a.at_ x) ∧ Sep No w0 w' [rowI 3 1 A n c0 (ints l'), blkI bx 98 #[.pointer (some ⟨Be, 0, none⟩)]] := by
  have hrow : w.ownsRow 0 3 1 (.slice A n c0) n (ints l) := hS.get 0 rfl
  obtain ⟨D, hD1, hD2⟩ := rn_at (pre := []) hK
  have hf : ∀ x ∈ thereL t.oj.abs, atF D x = t.a.at_ x := fun x hx => atF_of (hD2 x hx _)
  rcases hrow.2 with ⟨hv, h0⟩ | ⟨g, cap, cur, hv, _⟩
  · injection hv with e1 e2 e3
    subst e1; subst e2; subst e3
    have hle : l = [] := by have := hrow.1; simpa using this
    subst hle
    refine (sortNil_any none 0 _ w).mono ?_
    rintro e w' ⟨rfl, rfl⟩
    exact ⟨rfl, atF D, [], List.Perm.refl _, .nil, hf, hS⟩
  · injection hv with e1 e2 e3
    subst e1
    have hu := unF_finL hl
    have hP : (rowI 3 1 (some ⟨g, 0, none⟩) n c0 (ints (unF (finL l)))).P w := by rw [hu]; exact hrow
    obtain ⟨h1, h2, h3⟩ := holds_rowF hP
    have hds : (finL l).toArray.size = n := by simpa using h3
    have hlo : w0.heap.size ≤ g := (hS.lo 0 rfl g rfl).resolve_left (fun h => h)
    have hcmp : CmpLays1 Try.prog 160 #[.pointer (some ⟨bx, 0, none⟩)] encF (cfF (atF D)) g 0 (finL l).toArray.size w := by
      intro m os dk hs x y
      have hS2 : Sep No w0 (sortWorld encF w g 0 m dk os) [rowI 3 1 (some ⟨g, 0, none⟩) n c0 (dk.toList.map encF), blkI bx 98 #[.pointer (some ⟨Be, 0, none⟩)]] :=
        hS.step 0 rfl ((chg_sortW encF w g m dk os).mono fun j hj => .inl (by subst hj; rfl)) _ (row_sortW encF hrow (by rw [hs, hds]; have := hrow.1; simp at this; simp; omega)) (fun j hj => .inl hj)
      have hK2 := hK.below hS2.below_
      obtain ⟨_, _, k3, _, _, _, _, _⟩ := rn_cells (pre := []) hK2
      have hb2 := ((hS2.rules 1 (g := bx) (t := 98) rfl).1 0).trans (show _ = some (.pointer (some ⟨Be, 0, none⟩)) from rfl)
      have hD3 := owns_below hD1 hS2.below_
      obtain ⟨cx, a1, _, _⟩ := at_look hD3 (x.val : Int) (wfI_of (by omega) (by have := x.isLt; omega))
      obtain ⟨cy, b1, _, _⟩ := at_look hD3 (y.val : Int) (wfI_of (by omega) (by have := y.isLt; omega))
      have hx : ∀ k, (Instr.lookup 99 (.map (some t.b)) (.int .i64 (x.val : Int)) false).run Try.prog ((sortWorld encF w g 0 m dk os).drewN k) = .ok (.int .i64 cx) ((sortWorld encF w g 0 m dk os).drewN k) := fun k => by
        obtain ⟨c2, a2, _, a3⟩ := at_look (w := (sortWorld encF w g 0 m dk os).drewN k) (owns_below hD3 (below_drewN (Below.refl _ _) k)) (x.val : Int) (wfI_of (by omega) (by have := x.isLt; omega))
        rw [a1] at a2
        injection a2 with a2; injection a2 with _ a2
        rw [a2]; exact a3
      have hy : ∀ k, (Instr.lookup 99 (.map (some t.b)) (.int .i64 (y.val : Int)) false).run Try.prog ((sortWorld encF w g 0 m dk os).drewN k) = .ok (.int .i64 cy) ((sortWorld encF w g 0 m dk os).drewN k) := fun k => by
        obtain ⟨c2, a2, _, a3⟩ := at_look (w := (sortWorld encF w g 0 m dk os).drewN k) (owns_below hD3 (below_drewN (Below.refl _ _) k)) (y.val : Int) (wfI_of (by omega) (by have := y.isLt; omega))
        rw [b1] at a2
        injection a2 with a2; injection a2 with _ a2
        rw [a2]; exact a3
      refine (rowCmp_any _ Be bx t.b (x.val : Int) (y.val : Int) cx cy hb2 k3 hx hy).mono ?_
      rintro e w' ⟨he, q, hq⟩
      refine ⟨?_, q, #[], by rw [hq, grow_empty]⟩
      rw [he]
      unfold cfF
      rw [atF_of a1, atF_of b1]
    have hc := shelf_slices_SortFunc encF encF_one (cfF (atF D)) (swo_cfF (atF D)) 160 #[.pointer (some ⟨bx, 0, none⟩)] g 0 c0 (finL l).toArray w (kenter_of Try.func160 (by kernel_rfl) rfl) hcmp h1 h2 (by rw [hds]; omega)
    rw [← hds]
    refine hc.mono ?_
    rintro e w' ⟨rfl, d', k, os, hp, hs, rfl⟩
    rw [hds]
    obtain ⟨q1, q2, q3⟩ := sorted_unF hp hs
    refine ⟨rfl, atF D, unF d'.toList, ?_, q2, hf, ?_⟩
    · have : unF (finL l).toArray.toList = l := hu
      rw [this] at q1; exact q1
    · rw [← encF_map]
      exact hS.step 0 rfl ((chg_sortW encF w g k d' os).mono fun j hj => .inl (by subst hj; rfl)) _ (row_sortW encF hrow (by rw [q3, hds]; have := hrow.1; simp at this; simp; omega)) (fun j hj => .inl hj)

theorem there_lt {t : RnT} (hn : t.oj.ps.length ≤ 900) : ∀ x ∈ thereL t.oj.ps, 0 ≤ x ∧ x < 1000 := fun x hx => by
  obtain ⟨i, p, rfl, h⟩ := (mem_thereL _ _).1 hx
  have := (List.getElem?_eq_some_iff.1 h).1
  omega
set_option maxRecDepth 100000 in
set_option maxHeartbeats 4000000 in
theorem row_any {F : Nat → Prop} {W0 w : World} {Be Bm : Nat} {c W : Int} {t : RnT} (hK : Sep F W0 w (rnK Be Bm c W t)) (ok : RnOk W t.a) (hn : t.oj.ps.length ≤ 900) :
    Calls Try.prog 106 #[.pointer (some ⟨Be, 0, none⟩)] w fun e w' => ∃ A c', e = .returned (.slice A t.a.row.length c') ∧ Sep No w w' [rowI 3 1 A t.a.row.length c' (ints t.a.row)] := by
  obtain ⟨bx, hbx⟩ : ∃ g, w.heap.size = g := ⟨_, rfl⟩
  have hS0 := (Sep.nil No w).blkAt 98 #[.pointer (some ⟨Be, 0, none⟩)] hbx
  have hK1 := hK.below hS0.below_
  obtain ⟨k1, -, -, -, -, -, -, k8⟩ := rn_cells (pre := []) hK1
  have CT := oThere_any _ t.oj.As t.oj.ps.length t.oj.c t.oj.ps (by omega) (hK1.rd_ 3 rfl)
  have HU := hide (fun (l' : List Int) (f : Int → Int) (h1 : l'.Perm (thereL t.oj.ps)) (h2 : l'.Pairwise (fun x y => f x ≤ f y)) (h3 : ∀ x ∈ thereL t.oj.abs, f x = t.a.at_ x) => show l' = t.a.row from ok.row_uniq (by
      show l'.Perm (thereL t.oj.abs)
      rw [thereL_abs']; exact h1) (by
      refine h2.imp_of_mem fun {x y} hx hy h => ?_
      have hx2 : x ∈ thereL t.oj.abs := by rw [thereL_abs']; exact h1.mem_iff.1 hx
      have hy2 : y ∈ thereL t.oj.abs := by rw [thereL_abs']; exact h1.mem_iff.1 hy
      rw [h3 x hx2, h3 y hy2] at h; exact h))
  have hTL := there_lt hn
  have HLE := hide (show (thereL t.oj.ps).length ≤ 1000 by have h1 := thereK_len t.oj.ps t.oj.ps.length; have h3 : (thereL t.oj.ps).length = (thereK t.oj.ps t.oj.ps.length).length := rfl; omega)
  unfold Oj.v at k1
  obtain ⟨N, hN⟩ : ∃ n, t.oj.ps.length = n := ⟨_, rfl⟩
  rw [hN] at k1 CT hn
  obtain ⟨cp, hcp⟩ : ∃ n, t.oj.c = n := ⟨_, rfl⟩
  obtain ⟨As, hAs⟩ : ∃ n, t.oj.As = n := ⟨_, rfl⟩
  rw [hcp, hAs] at k1 CT
  obtain ⟨L, hL⟩ : ∃ l, thereL t.oj.ps = l := ⟨_, rfl⟩
  rw [hL] at CT hTL HLE
  simp only [hL] at HU
  obtain ⟨R, hR⟩ : ∃ r, t.a.row = r := ⟨_, rfl⟩
  simp only [hR] at HU ⊢
  obtain ⟨b1, b2, b3, _⟩ := hS0.rules 0 (g := bx) (t := 98) rfl
  have b5 := (b1 0).trans (show _ = some (.pointer (some ⟨Be, 0, none⟩)) from rfl)
  obtain ⟨W2, hW2⟩ : ∃ W, w.alloc (.cells #[.pointer (some ⟨Be, 0, none⟩)] 98) = W := ⟨_, rfl⟩
  rw [hW2] at k1 k8 CT b2 b3 b5 hS0
  have HCT := hide CT
  have HK := hide hK
  have HS0 := hide hS0
  have HTL := hide hTL
  clear hK hS0 hK1 CT hTL b1 ok hN hL hR hcp hAs
  go_enter Try.func106, Try.ntmps106
  go_wp2_with fail
  refine HCT.out.mono ?_
  rintro e w2 ⟨A, c1, rfl, hP2⟩
  have hS2 := HS0.out.consNew hP2.below_ _ (hP2.get 0 rfl) (fun g hg => (hP2.lo 0 rfl g hg).resolve_left (fun h => h))
  have CS := hide (sortRow_any HK.out hS2 HTL.out HLE.out)
  obtain ⟨m, hm⟩ : ∃ m, L.length = m := ⟨_, rfl⟩
  rw [hm] at CS ⊢
  have HM := hide hm
  obtain ⟨c1', c2', c3', _⟩ := hS2.rules 1 (g := bx) (t := 98) rfl
  clear hP2 hS2 hm HS0 HCT b2 b3 b5 k1 k8
  go_wp2_with fail
  refine CS.out.mono ?_
  rintro e w3 ⟨rfl, f, l', q1, q2, q3, hS3⟩
  have hl' := HU.out l' f q1 q2 q3
  subst hl'
  have hlen : l'.length = m := by rw [← HM.out]; exact q1.length_eq
  have HS3 := hide hS3
  have HL' := hide hlen
  clear CS q1 q2 q3 hS3 HU hlen c1' c2' c3'
  go_wp2_with fail
  go_ret
  exact ⟨A, c1, by rw [HL'.out]; rfl, by rw [HL'.out]; exact HS3.out.sub (List.sublist_append_left [_] [_])⟩
end Go.Proofs.Ytjphckfbbiehdaa
