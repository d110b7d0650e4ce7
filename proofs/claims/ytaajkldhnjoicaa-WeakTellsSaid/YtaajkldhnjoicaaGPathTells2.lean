/- Paths: what the reference's marks say; plain. Paths: the reference's. The law PathTells: the walk. -/
import Derived.Test.YtaajkldhnjoicaaGPathTells0
import Derived.Test.YtaajkldhnjoicaaGGraphTells7
import Derived.Test.YtaajkldhnjoicaaGPathTells1
set_option linter.unusedSimpArgs false
set_option linter.unusedVariables false
namespace Go.Proofs.Ytaajkldhnjoicaa

section
variable {gs : List (List Val)} {vs : List Val} {v : Int}
theorem On.inv {i : Int} (h : On gs vs v i) : i = v ∨ ∃ x, (true, x) ∈ fieldsI gs i ∧ On gs vs v x ∧ dI gs vs x = dI gs vs i + 1 := by
  cases h with
  | here => exact .inl rfl
  | step _ x h1 h2 h3 => exact .inr ⟨x, h1, h2, h3⟩
/-- The marks in a row of bools. -/
def OnS (gs : List (List Val)) (bs : List Bool) (P : Int → Prop) : Prop := bs.length = gs.length ∧ ∀ j : Nat, j < gs.length → (bs.getD j false = true ↔ P j)
def P0 (gs : List (List Val)) (vs : List Val) (v T : Int) (j : Int) : Prop := On gs vs v j ∧ T < dI gs vs j
def P1 (gs : List (List Val)) (vs : List Val) (v T : Int) (I : Nat) (j : Int) : Prop := On gs vs v j ∧ (T < dI gs vs j ∨ (dI gs vs j = T ∧ j < I))
def P2 (gs : List (List Val)) (vs : List Val) (v T : Int) (I f : Nat) (j : Int) : Prop := P1 gs vs v T I j ∨ (j = I ∧ dI gs vs I = T ∧ ∃ f' x, f' < f ∧ (fieldsI gs I)[f']? = some (true, x) ∧ On gs vs v x ∧ dI gs vs x = T + 1)
theorem bget_set {bs : List Bool} {i j : Nat} {b : Bool} (hi : i < bs.length) : (bs.set i b).getD j false = if j = i then b else bs.getD j false := by
  rw [List.getD_eq_getElem?_getD, List.getElem?_set]
  by_cases e : i = j
  · subst e; simp [hi]
  · rw [if_neg e, if_neg (Ne.symm e), ← List.getD_eq_getElem?_getD]
theorem OnS.iff {bs : List Bool} {P Q : Int → Prop} (h : OnS gs bs P) (hpq : ∀ j : Nat, j < gs.length → (P j ↔ Q j)) : OnS gs bs Q := ⟨h.1, fun j hj => (h.2 j hj).trans (hpq j hj)⟩
theorem onS_start (i : Nat) (hi : i < gs.length) : OnS gs ((List.replicate gs.length false).set i true) (P0 gs vs (i : Int) (dI gs vs i - 1)) := by
  refine ⟨by simp, fun j hj => ?_⟩
  rw [bget_set (by simpa using hi)]
  constructor
  · intro h
    split at h
    · rename_i e; subst e; exact ⟨.here, by omega⟩
    · rw [List.getD_eq_getElem?_getD, List.getElem?_replicate, if_pos hj] at h; cases h
  · rintro ⟨h1, h2⟩
    rcases h1.inv with e | ⟨x, _, hx, hd⟩
    · rw [if_pos (by omega)]
    · have := hx.le; omega
theorem onA {bs : List Bool} {T : Int} (h : OnS gs bs (P0 gs vs v T)) : OnS gs bs (P1 gs vs v T 0) := h.iff fun j _ => by
  unfold P0 P1
  constructor
  · rintro ⟨a, b⟩; exact ⟨a, .inl b⟩
  · rintro ⟨a, b | ⟨_, b⟩⟩
    · exact ⟨a, b⟩
    · omega
theorem onB {bs : List Bool} {T : Int} {I : Nat} (h : OnS gs bs (P1 gs vs v T I)) : OnS gs bs (P2 gs vs v T I 0) := h.iff fun j _ => by
  unfold P2
  constructor
  · exact .inl
  · rintro (a | ⟨_, _, f', x, h1, _⟩)
    · exact a
    · omega
theorem onC_no {bs : List Bool} {T : Int} {I f : Nat} (h : OnS gs bs (P2 gs vs v T I f)) (hno : dI gs vs I = T → ∀ x, (fieldsI gs I)[f]? = some (true, x) → On gs vs v x → dI gs vs x = T + 1 → False) : OnS gs bs (P2 gs vs v T I (f + 1)) := h.iff fun j _ => by
  unfold P2
  constructor
  · rintro (a | ⟨a, b, f', x, h1, h2⟩)
    · exact .inl a
    · exact .inr ⟨a, b, f', x, by omega, h2⟩
  · rintro (a | ⟨a, b, f', x, h1, h2, h3, h4⟩)
    · exact .inl a
    · by_cases e : f' = f
      · subst e; exact (hno b x h2 h3 h4).elim
      · exact .inr ⟨a, b, f', x, by omega, h2, h3, h4⟩
theorem onC_yes {bs : List Bool} {T : Int} {I f : Nat} {x : Int} (hI : I < gs.length) (h : OnS gs bs (P2 gs vs v T I f)) (hd : dI gs vs I = T) (hx : (fieldsI gs I)[f]? = some (true, x)) (hon : On gs vs v x) (hdx : dI gs vs x = T + 1) : OnS gs (bs.set I true) (P2 gs vs v T I (f + 1)) := by
  refine ⟨by rw [List.length_set]; exact h.1, fun j hj => ?_⟩
  rw [bget_set (by rw [h.1]; exact hI)]
  by_cases e : j = I
  · subst e
    rw [if_pos rfl]
    exact ⟨fun _ => .inr ⟨rfl, hd, f, x, by omega, hx, hon, hdx⟩, fun _ => rfl⟩
  · rw [if_neg e, h.2 j hj]
    unfold P2
    constructor
    · rintro (a | ⟨a, _⟩)
      · exact .inl a
      · omega
    · rintro (a | ⟨a, _⟩)
      · exact .inl a
      · omega
/-- What a mark says of an object that is one further. -/
theorem onS_far {bs : List Bool} {T : Int} {I f : Nat} (h : OnS gs bs (P2 gs vs v T I f)) (z : Nat) (hz : z < gs.length) (hd : dI gs vs z = T + 1) : bs.getD z false = true ↔ On gs vs v z := by
  rw [h.2 z hz]
  unfold P2 P1
  constructor
  · rintro (⟨a, _⟩ | ⟨a, b, _⟩)
    · exact a
    · have : z = I := by omega
      subst this; omega
  · intro a; exact .inl ⟨a, .inl (by omega)⟩
theorem onD {bs : List Bool} {T : Int} {I n : Nat} (h : OnS gs bs (P2 gs vs v T I n)) (hn : (fieldsI gs I).length ≤ n) (hT : T < dI gs vs v) : OnS gs bs (P1 gs vs v T (I + 1)) := h.iff fun j _ => by
  unfold P2 P1
  constructor
  · rintro (⟨a, b | ⟨b, c⟩⟩ | ⟨a, b, f', x, h1, h2, h3, h4⟩)
    · exact ⟨a, .inl b⟩
    · exact ⟨a, .inr ⟨b, by omega⟩⟩
    · rw [a]; exact ⟨.step _ x (List.mem_of_getElem? h2) h3 (by omega), .inr ⟨b, by omega⟩⟩
  · rintro ⟨a, b | ⟨b, c⟩⟩
    · exact .inl ⟨a, .inl b⟩
    · by_cases e : (j : Int) = I
      · rcases a.inv with e2 | ⟨x, h1, h2, h3⟩
        · rw [e2] at b; omega
        · obtain ⟨f', hf⟩ := List.mem_iff_getElem?.1 h1
          rw [e] at hf b h3
          refine .inr ⟨e, b, f', x, ?_, hf, h2, by omega⟩
          rcases Nat.lt_or_ge f' n with h4 | h4
          · exact h4
          · rw [List.getElem?_eq_none (by omega)] at hf; cases hf
      · exact .inl ⟨a, .inr ⟨b, by omega⟩⟩
theorem onE {bs : List Bool} {T : Int} (h : OnS gs bs (P1 gs vs v T gs.length)) : OnS gs bs (P0 gs vs v (T - 1)) := h.iff fun j hj => by
  unfold P1 P0
  constructor
  · rintro ⟨a, b | ⟨b, _⟩⟩
    · exact ⟨a, by omega⟩
    · exact ⟨a, by omega⟩
  · rintro ⟨a, b⟩
    refine ⟨a, ?_⟩
    by_cases e : dI gs vs j = T
    · exact .inr ⟨e, by omega⟩
    · exact .inl (by omega)
/-- All marks. -/
def OnAll (gs : List (List Val)) (vs : List Val) (v : Int) (bs : List Bool) : Prop := OnS gs bs (P0 gs vs v (-1))
theorem OnAll.at_ {bs : List Bool} (h : OnAll gs vs v bs) (z : Nat) (hz : z < gs.length) (hd : 0 ≤ dI gs vs z) : bs.getD z false = true ↔ On gs vs v z := by
  rw [h.2 z hz]
  unfold P0
  exact ⟨fun a => a.1, fun a => ⟨a, by omega⟩⟩

/-- The way, as the reference goes it. -/
structure WayF (gs : List (List Val)) (vs : List Val) (v : Int) (r : Nat) (l : List Int) (y : Nat → Int) : Prop where
  rng : ∀ t, t ≤ l.length → 0 ≤ y t ∧ y t < gs.length ∧ dI gs vs (y t) = t ∧ On gs vs v (y t)
  fin : y l.length = v
  root : r < 8 ∧ vs[r]? = some (true, y 0)
  rmin : ∀ r' x, r' < r → vs[r']? = some (true, x) → On gs vs v x → dI gs vs x = 0 → False
  fld : ∀ t, t < l.length → ∃ f : Nat, l.getD t 0 = f ∧ (fieldsI gs (y t))[f]? = some (true, y (t + 1)) ∧ ∀ f' x, f' < f → (fieldsI gs (y t))[f']? = some (true, x) → On gs vs v x → dI gs vs x = dI gs vs (y t) + 1 → False
theorem wayF_of {S : List Stp} (hF : PFin gs vs S) (hfl : ∀ x, (fieldsI gs x).length ≤ 8) {i r : Nat} {l : List Int} (h : PWay S i r l) : ∃ y, WayF gs vs (pX S i) r l y := by
  obtain ⟨Y, y1, y2, y3, y4, y5, y6⟩ := h.at_ hF
  have hY : ∀ t, t ≤ l.length → Y t < S.length := fun t ht => (y2 t ht).1
  have hst : ∀ t, t < l.length → (Y t + 1) * 8 ≤ pQ S (Y (t + 1)) := fun t ht => by obtain ⟨f, _, _, e, _⟩ := y6 t ht; omega
  have hend : dI gs vs (pX S (Y l.length)) = l.length := (y2 _ (Nat.le_refl _)).2.1
  have hrg : ∀ j, j < S.length → 0 ≤ pX S j ∧ pX S j < gs.length := fun j hj => hF.ok.rng _ (List.mem_map.2 ⟨_, List.getElem_mem hj, by rw [p_at hj]⟩)
  have first : ∀ (x : Int), On gs vs (pX S i) x → ∀ t j, t ≤ l.length → dI gs vs x = t → j < S.length → pX S j = x → Y t ≤ j := fun x hx => way_first hF hfl hY hst hend x (by rw [y1]; exact hx)
  have mono : ∀ a b, a < S.length → b < S.length → pQ S a < pQ S b → a < b := fun a b ha hb hab => by
    rcases Nat.lt_or_ge a b with h1 | h1
    · exact h1
    · rcases Nat.lt_or_ge b a with h2 | h2
      · have := hF.up b a h2 ha; omega
      · have : a = b := by omega
        subst this; omega
  have hsome : ∀ {us : List Val} {k : Nat} {x : Val}, us[k]? = some x → k < us.length := fun {us k x} h => by
    rcases Nat.lt_or_ge k us.length with h1 | h1
    · exact h1
    · rw [List.getElem?_eq_none h1] at h; cases h
  refine ⟨fun t => pX S (Y t), fun t ht => ?_, by rw [y1], ⟨y4, y5⟩, fun r' x hr hx hon hd => ?_, fun t ht => ?_⟩
  · obtain ⟨a, b, c⟩ := y2 t ht
    exact ⟨(hrg _ a).1, (hrg _ a).2, b, c⟩
  · obtain ⟨j, hj, e1, e2⟩ := hF.croot r' x (by omega) hx
    have h1 := first x hon 0 j (by omega) (by omega) hj e1
    have h2 := mono j (Y 0) hj (hY 0 (by omega)) (by omega)
    omega
  · obtain ⟨f, e1, e2, e3, e4⟩ := y6 t ht
    refine ⟨f, e1, e4, fun f' x hf hx hon hd => ?_⟩
    obtain ⟨j, hj, e5, e6⟩ := hF.cfield (Y t) f' x (hY t (by omega)) (by omega) hx
    have h1 := first x hon (t + 1) j (by omega) (by have := (y2 t (by omega)).2.1; omega) hj e5
    have h2 := mono j (Y (t + 1)) hj (hY _ (by omega)) (by omega)
    omega
end
end Go.Proofs.Ytaajkldhnjoicaa

namespace Go.Proofs.Ytaajkldhnjoicaa
open Go.RowKit

def bls (l : List Bool) : List Value := l.map Value.bool
theorem bls_get (l : List Bool) (k : Nat) (h : k < l.length) : (bls l)[k]? = some (.bool (l.getD k false)) := by simp [bls, List.getElem?_eq_getElem h, List.getD_eq_getElem?_getD]
theorem bls_set (l : List Bool) (k : Nat) (b : Bool) : (bls l).set k (.bool b) = bls (l.set k b) := by unfold bls; rw [List.map_set]
theorem bInfo : (Try.prog.info? 4).map (fun i => (i.zero, i.size, i.bytes)) = some (some (.bool false), 1, 1) := by kernel_rfl
theorem bMade (n : Nat) : (madeCells (Value.cells (.bool false)) (n * 1)).toList = bls (List.replicate n false) := by
  rcases Nat.eq_zero_or_pos n with rfl | h
  · simp [madeCells, bls]
  · apply List.ext_getElem (by simp [madeCells, Value.cells, bls])
    intro i h1 h2
    simp [madeCells, Value.cells, bls, Nat.mod_one]
theorem ints_cell {w : World} {n c : Nat} {A : Option Addr} {l : List Int} (h : (rowI 3 1 A n c (ints l)).P w) (k : Nat) (hk : k < n) : ∃ g, A = some ⟨g, 0, none⟩ ∧ w.cell? ⟨g, k, none⟩ = some (.int .i64 (l.getD k 0)) := by
  have hrow : w.ownsRow 0 3 1 (.slice A n c) n (ints l) := h
  have hl : l.length = n := by have := hrow.1; simpa using this
  obtain ⟨g, rfl⟩ := own_addr' hrow (by omega)
  refine ⟨g, rfl, ?_⟩
  rw [hrow.cellAt k (by omega)]
  simp [ints, List.getElem?_eq_getElem (show k < l.length by omega), List.getD_eq_getElem?_getD]
theorem bls_cell {w : World} {n c : Nat} {A : Option Addr} {l : List Bool} (h : (rowI 4 1 A n c (bls l)).P w) (k : Nat) (hk : k < n) : ∃ g, A = some ⟨g, 0, none⟩ ∧ w.cell? ⟨g, k, none⟩ = some (.bool (l.getD k false)) ∧ w.frozen? ⟨g, k, none⟩ = false := by
  have hrow : w.ownsRow 0 4 1 (.slice A n c) n (bls l) := h
  have hl : l.length = n := by have := hrow.1; simpa [bls] using this
  obtain ⟨g, rfl⟩ := own_addr' hrow (by omega)
  refine ⟨g, rfl, ?_, hrow.frozenAt k⟩
  rw [hrow.cellAt k (by omega), bls_get l k (by omega)]

theorem sepNewR {F : Nat → Prop} {W w w' : World} {items : List Item} (h : Sep F W w items) {i : Item} (h2 : Sep No w w' [i]) : Sep F W w' (items ++ [i]) :=
  h.snocNew h2.below_ i (h2.get 0 rfl) (fun g hg => (h2.lo 0 rfl g hg).resolve_left (fun h => h))

set_option maxRecDepth 100000 in
set_option maxHeartbeats 4000000 in
theorem refPath_none (w : World) (AO AR : Option Addr) (nO cO nR cR : Nat) (v : Nat) (obs : List Ob) (roots : List Val) (hO : ObsRd w (fun _ => True) AO nO obs) (hR : Rd w (fun _ => True) 2 AR nR (vals roots)) (hG : GOk nO nR obs roots) (hv : v < nO) (hd : dI (obs.map Ob.fields) roots v < 0) :
    Calls Try.prog 22 #[.agg #[.slice AO nO cO, .slice AR nR cR], .int .i64 v] w fun e w' => e = .returned (.tuple #[.int .i64 0, .slice none 0 0, .bool false]) ∧ Below w.heap.size w w' := by
  have hB0 : Below w.heap.size w (w.alloc (.cells #[.slice AO nO cO, .slice AR nR cR] 25)) := (Below.refl _ w).alloc (Nat.le_refl _) _
  have hGR := graphRd_of hO (cO := cO) hR (cR := cR)
  have hn1 := hG.nO_
  have C1 := hide (dist_any _ _ _ _ (hGR.below hB0) (by have := hG.len; omega) (by have := hG.nR_; have := roots_len hR; omega) (fun fs hfs => by have := hG.fs fs hfs; omega))
  rw [hG.len] at C1
  have hd2 : (distR (obs.map Ob.fields) roots).getD v 0 < 0 := hd
  generalize distR (obs.map Ob.fields) roots = L at *
  have HB0 := hide hB0
  obtain ⟨a1, a2, a3⟩ := (Blk.new w 25 #[.slice AO nO cO, .slice AR nR cR]).rules
  obtain ⟨y, hy⟩ : ∃ y, L.getD v 0 = y := ⟨_, rfl⟩
  have HY := hide hy
  rw [hy] at hd2
  clear hd hG hGR hB0 hy
  go_enter Try.func22, Try.ntmps22
  go_wp2_with fail
  refine C1.out.mono ?_
  rintro e w1 ⟨A1, c1, rfl, hP⟩
  obtain ⟨g, rfl, e0⟩ := ints_cell (hP.get 0 rfl) v hv
  rw [HY.out] at e0
  have hb := hP.below_
  clear hP
  go_wp2_with fail
  go_ret3
  exact ⟨rfl, HB0.out.trans (hb.mono HB0.out.size)⟩

def lenV : Value → Nat
  | .slice _ n _ => n
  | _ => 0

set_option maxRecDepth 100000 in
set_option maxHeartbeats 16000000 in
theorem refPath_ok (w : World) (AO AR : Option Addr) (nO cO nR cR : Nat) (v : Nat) (obs : List Ob) (roots : List Val) (hO : ObsRd w (fun _ => True) AO nO obs) (hR : Rd w (fun _ => True) 2 AR nR (vals roots)) (hG : GOk nO nR obs roots) (hv : v < nO)
    (r : Nat) (l : List Int) (y : Nat → Int) (hW : WayF (obs.map Ob.fields) roots (v : Int) r l y) (hl : l.length ≤ 24) :
    Calls Try.prog 22 #[.agg #[.slice AO nO cO, .slice AR nR cR], .int .i64 v] w fun e w' => ∃ A c, e = .returned (.tuple #[.int .i64 r, .slice A l.length c, .bool true]) ∧ Sep No w w' [rowI 3 1 A l.length c (ints l)] := by
  obtain ⟨adO, rfl, _⟩ := hO.row.at_ hv
  have hr0 : r < nR := by
    have h1 := hW.root.2
    rw [← roots_len hR]
    rcases Nat.lt_or_ge r roots.length with h2 | h2
    · exact h2
    · rw [List.getElem?_eq_none h2] at h1; cases h1
  obtain ⟨arO, rfl, _⟩ := hR.atN hr0
  have hB0 : Below w.heap.size w (w.alloc (.cells #[.slice (some adO) nO cO, .slice (some arO) nR cR] 25)) := (Below.refl _ w).alloc (Nat.le_refl _) _
  have hS0 := (Sep.nil No w).blkAt 25 #[.slice (some adO) nO cO, .slice (some arO) nR cR] rfl
  have hGR := graphRd_of hO (cO := cO) hR (cR := cR)
  have hn1 := hG.nO_
  have hn2 := hG.nR_
  have HFL := hide hG.fl
  have HRL := hide (roots_len hR)
  have HOL := hide hO.len
  have C1 := hide (dist_any _ _ _ _ (hGR.below hB0) (by have := hG.len; omega) (by have := hG.nR_; have := roots_len hR; omega) (fun fs hfs => by have := hG.fs fs hfs; omega))
  rw [hG.len] at C1
  have HGL := hide hG.len
  have HVG := hide hG.vg
  have HVR := hide hG.vr
  have HOB := hide (fun (z : Nat) (hz : z < obs.length) => show fieldsI (obs.map Ob.fields) (z : Int) = obs[z].fields by
    unfold fieldsI
    rw [List.getD_eq_getElem?_getD, List.getElem?_map, show ((z : Int)).toNat = z from by omega, List.getElem?_eq_getElem hz]
    rfl)
  have HFN := hide (fun o ho => hO.flen (o := o) ho)
  have HDI := hide (fun z : Nat => show (distR (obs.map Ob.fields) roots).getD z 0 = dI (obs.map Ob.fields) roots z from rfl)
  have hdv : dI (obs.map Ob.fields) roots v = l.length := by rw [← hW.fin]; exact (hW.rng _ (Nat.le_refl _)).2.2.1
  generalize distR (obs.map Ob.fields) roots = L at *
  generalize obs.map Ob.fields = gs at *
  have HW := hide hW
  have HS0 := hide hS0
  obtain ⟨a1, a2, a3, a4⟩ := hS0.rules 0 (g := w.heap.size) (t := 25) rfl
  have a5 := a1 0
  have a6 := a1 1
  clear hG hGR hB0 hS0 hW a1 a4
  go_enter Try.func22, Try.ntmps22
  go_wp2_with fail
  refine C1.out.mono ?_
  rintro e w1 ⟨A1, c1, rfl, hP⟩
  have hS1 := sepNewR HS0.out hP
  obtain ⟨gd, rfl, e0⟩ := ints_cell (hS1.get 1 rfl) v hv
  rw [HDI.out, hdv] at e0
  obtain ⟨a1, a2, a3, a4⟩ := hS1.rules 0 (g := w.heap.size) (t := 25) rfl
  have a5 : w1.cell? ⟨w.heap.size, 0, none⟩ = some (.slice (some adO) nO cO) := by rw [a1]; rfl
  have hne : gd ≠ w1.heap.size := by have := hS1.hi 1 rfl gd rfl; omega
  have HS1 := hide hS1
  clear hP a1 a4 C1 HS0
  go_wp2_with (first
    | (at_make
       refine wpList_make rfl (.tmp 32) (.tmp 32) 75 rfl HS1.out Try.underlying75 bInfo (by omega) .i64 .i64 nO rfl rfl (by omega) ?_
       intro w2 hS2 hb2
       rw [bMade] at hS2
       obtain ⟨gb, hgb, b0, b1⟩ := bls_cell (hS2.get 2 rfl) v hv
       obtain ⟨gd', hgd', e1⟩ := ints_cell (hS2.get 1 rfl) v hv
       rw [HDI.out, hdv] at e1
       obtain rfl : gd = gd' := by injection hgd' with h; injection h
       obtain rfl : w1.heap.size = gb := by injection hgb with h; injection h
       obtain ⟨x1, x2, x3, x4⟩ := hS2.rules 0 (g := w.heap.size) (t := 25) rfl
       (have x5 : w2.cell? ⟨w.heap.size, 0, none⟩ = some (.slice (some adO) nO cO) := by rw [x1]; rfl)
       have HS2 := hide hS2
       clear x1 x4 hS2 hb2 hgb hgd' HS1 a5 e0 a2 a3))
  have HS3 := hide (show Sep No w (w2.setCell ⟨w1.heap.size, v, none⟩ (.bool true)) [blkI w.heap.size 25 #[.slice (some adO) nO cO, .slice (some arO) nR cR], rowI 3 1 (some ⟨gd, 0, none⟩) nO c1 (ints L), rowI 4 1 (some ⟨w1.heap.size, 0, none⟩) nO nO (bls ((List.replicate nO false).set v true))] from by
    have h := HS2.out.store 2 (g := w1.heap.size) rfl v (.bool true)
    rw [bls_set] at h
    exact h)
  have hO1 := onS_start (gs := gs) (vs := roots) v (by rw [HGL.out]; exact hv)
  rw [HGL.out, hdv] at hO1
  have HO1 := hide hO1
  generalize (List.replicate nO false).set v true = bs0 at *
  generalize hgb : w1.heap.size = gb at *
  clear hO1 HS2 b0 b1 e1 x2 x3 x5 hgb
  go_loopw [10, 11, 13] (fun s10 _ _ wr => ∃ (k : Nat) (bs : List Bool), k ≤ l.length ∧ s10 = .int .i64 ((k : Int) - 1) ∧ Hid (OnS gs bs (P0 gs roots v ((k : Int) - 1))) ∧ Sep No w wr [blkI w.heap.size 25 #[.slice (some adO) nO cO, .slice (some arO) nR cR], rowI 3 1 (some ⟨gd, 0, none⟩) nO c1 (ints L), rowI 4 1 (some ⟨gb, 0, none⟩) nO nO (bls bs)]) (fun s _ _ _ => (intOf s + 1).toNat)
  case atStart => exact ⟨l.length, bs0, by omega, rfl, HO1, HS3.out⟩
  case round =>
    clear HS3 HO1
    obtain ⟨k, bs, hk, rfl, hON, hS⟩ := hrel
    cases k with
    | zero =>
      have hrng := HW.out.rng
      have hroot := HW.out.root
      obtain ⟨g1, g2, g3, g4⟩ := hS.rules 0 (g := w.heap.size) (t := 25) rfl
      have g6 : wr.cell? ⟨w.heap.size, 1, none⟩ = some (.slice (some arO) nR cR) := by rw [g1]; rfl
      have HALL := hide (show OnAll gs roots v bs from hON.out)
      have HS := hide hS
      have HR0 := hide hr0
      clear hS hON g1 g4 hrng hroot
      go_wp2_with fail
      go_loopw [14, 15, 16, 17] (fun s14 s15 s16 _ wr => ∃ (k : Nat) (root at_ : Int), k ≤ nR ∧ s14 = .int .i64 root ∧ s15 = .int .i64 at_ ∧ s16 = .int .i64 ((k : Int) - 1) ∧ Hid (k ≤ r → root = r ∧ at_ = y 0) ∧ Sep No w wr [blkI w.heap.size 25 #[.slice (some adO) nO cO, .slice (some arO) nR cR], rowI 3 1 (some ⟨gd, 0, none⟩) nO c1 (ints L), rowI 4 1 (some ⟨gb, 0, none⟩) nO nO (bls bs)]) (fun _ _ s _ _ => (intOf s + 1).toNat)
      case atStart => exact ⟨nR, 0, -1, by omega, rfl, rfl, rfl, by show _ → _; intro h; have := HR0.out; omega, HS.out⟩
      case round =>
        clear HS g6 g2 g3
        obtain ⟨k, root, at_, hk, rfl, rfl, rfl, hQ, hS⟩ := hrel
        cases k with
        | zero =>
          obtain ⟨hq1, hq2⟩ := hQ.out (by omega)
          subst hq1 hq2
          have HS := hide (show Sep No w wr (rowI 3 1 none 0 0 (ints (l.take 0)) :: [blkI w.heap.size 25 #[.slice (some adO) nO cO, .slice (some arO) nR cR], rowI 3 1 (some ⟨gd, 0, none⟩) nO c1 (ints L), rowI 4 1 (some ⟨gb, 0, none⟩) nO nO (bls bs)]) from hS.nilRow0 3 1)
          clear hS hQ
          go_wp2_with fail
          go_loopw [15, 18, 19, 20, 21] (fun s15 s18 _ _ _ wr => ∃ (t : Nat) (A : Option Addr) (c : Nat), t ≤ l.length ∧ s15 = .int .i64 (y t) ∧ s18 = .slice A t c ∧ Sep No w wr (rowI 3 1 A t c (ints (l.take t)) :: [blkI w.heap.size 25 #[.slice (some adO) nO cO, .slice (some arO) nR cR], rowI 3 1 (some ⟨gd, 0, none⟩) nO c1 (ints L), rowI 4 1 (some ⟨gb, 0, none⟩) nO nO (bls bs)])) (fun _ s _ _ _ _ => l.length - lenV s)
          case atStart => exact ⟨0, none, 0, by omega, rfl, rfl, HS.out⟩
          case round =>
            clear HS
            obtain ⟨t, A, c, ht, rfl, rfl, hS⟩ := hrel
            obtain ⟨y1, y2, y3, y4⟩ := HW.out.rng t ht
            rw [HGL.out] at y2
            obtain ⟨z, hz⟩ := int_nat y1
            have hzn : z < nO := by omega
            obtain ⟨gd', hgd', d1⟩ := ints_cell (hS.get 2 rfl) z hzn
            obtain rfl : gd = gd' := by injection hgd' with h; injection h
            rw [HDI.out, ← hz, y3] at d1
            obtain ⟨gd', hgd', d2⟩ := ints_cell (hS.get 2 rfl) v hv
            obtain rfl : gd = gd' := by injection hgd' with h; injection h
            rw [HDI.out, hdv] at d2
            have HZ := hide hz
            have HY3 := hide y3
            rw [hz]
            by_cases hlt : t < l.length
            · obtain ⟨f0, hf0, hfx, hmin⟩ := HW.out.fld t hlt
              rw [hz] at hfx hmin
              have hIl : z < obs.length := by rw [HOL.out]; exact hzn
              obtain ⟨ad, hA, _, had, hc⟩ := (hO.below hS.below_).row.at_ hzn
              obtain rfl : adO = ad := by injection hA
              have e1 := hc obs[z].val (by simp [List.getElem?_eq_getElem hIl])
              have hE := hO.each _ (List.getElem_mem hIl)
              have hfi := HOB.out z hIl
              have hfn := HFN.out _ (List.getElem_mem hIl)
              have hon := HFL.out _ (List.getElem_mem hIl)
              have hvo := fieldsI_ok HVG.out (z : Int)
              rw [HGL.out] at hvo
              obtain ⟨o, ho⟩ : ∃ o, obs[z] = o := ⟨_, rfl⟩
              have HOE := hide ho
              rw [ho] at e1 hE hfi hfn hon
              rw [hfi] at hvo hfx
              have hf0n : f0 < o.n := by
                rw [← hfn]
                rcases Nat.lt_or_ge f0 o.fields.length with h2 | h2
                · exact h2
                · rw [List.getElem?_eq_none h2] at hfx; cases hfx
              unfold Ob.val at e1
              obtain ⟨g1, g2, g3, g4⟩ := hS.rules 1 (g := w.heap.size) (t := 25) rfl
              have g5 : wr.cell? ⟨w.heap.size, 0, none⟩ = some (.slice (some adO) nO cO) := by rw [g1]; rfl
              have HS := hide hS
              have HFI := hide hfi
              have HFN2 := hide hfn
              have HVO := hide hvo
              have HFX := hide hfx
              have HMIN := hide hmin
              have HF0 := hide hf0
              clear hS hA hc ho hfi hfn hvo hfx hmin hf0 g1 g4 hgd' y1 y2 y3 y4 hz
              go_wp2_with fail
              go_quiet (fail)
              go_wp2_with fail
              go_loopw [19, 20, 21] (fun s19 s20 _ wr => ∃ (k : Nat) (best : Int), k ≤ o.n ∧ s19 = .int .i64 best ∧ s20 = .int .i64 ((k : Int) - 1) ∧ Hid (k ≤ f0 → best = f0) ∧ Sep No w wr (rowI 3 1 A t c (ints (l.take t)) :: [blkI w.heap.size 25 #[.slice (some adO) nO cO, .slice (some arO) nR cR], rowI 3 1 (some ⟨gd, 0, none⟩) nO c1 (ints L), rowI 4 1 (some ⟨gb, 0, none⟩) nO nO (bls bs)])) (fun _ s _ _ => (intOf s + 1).toNat)
              case atStart => exact ⟨o.n, 0, by omega, rfl, rfl, by show _ → _; intro h; omega, HS.out.drewN _⟩
              case round =>
                clear HS d1 d2 e1 g5 g2 g3
                obtain ⟨k, best, hk, rfl, rfl, hQ, hS⟩ := hrel
                obtain ⟨gd', hgd', d1⟩ := ints_cell (hS.get 2 rfl) z hzn
                obtain rfl : gd = gd' := by injection hgd' with h; injection h
                rw [HDI.out, ← HZ.out, HY3.out] at d1
                obtain ⟨ad, hA, _, had, hc⟩ := (hO.below hS.below_).row.at_ hzn
                obtain rfl : adO = ad := by injection hA
                have e1 := hc obs[z].val (by simp [List.getElem?_eq_getElem hIl])
                rw [HOE.out] at e1
                unfold Ob.val at e1
                clear hc
                obtain ⟨g1, g2, g3, g4⟩ := hS.rules 1 (g := w.heap.size) (t := 25) rfl
                have g5 : wr.cell? ⟨w.heap.size, 0, none⟩ = some (.slice (some adO) nO cO) := by rw [g1]; rfl
                cases k with
                | zero =>
                  obtain rfl := hQ.out (by omega)
                  have hkl : f0 < o.fields.length := by rw [HFN2.out]; exact hf0n
                  obtain ⟨ao, hAo, _, hao, hc, hd⟩ := (hE.below hS.below_).atN hf0n
                  obtain ⟨v0, v1⟩ := vals_at o.fields f0 hkl
                  have c1' := hd 0 _ v1
                  have hx1 : o.fields[f0] = (true, y (t + 1)) := by
                    have h1 := HFX.out
                    rw [List.getElem?_eq_getElem hkl] at h1
                    injection h1
                  rw [hx1] at c1'
                  dsimp only at c1'
                  have HS := hide hS
                  have HTK := hide (show l.take (t + 1) = l.take t ++ [(f0 : Int)] by rw [List.take_succ_eq_append_getElem hlt]; have := HF0.out; rw [List.getD_eq_getElem?_getD, List.getElem?_eq_getElem hlt] at this; simp at this; rw [this])
                  rw [hAo] at e1
                  have HV1 := hide v1
                  have HX1 := hide hx1
                  have HAO := hide hAo
                  clear hS hQ hgd' hA hc hd v0 v1 hx1 g1 g4 hAo
                  go_wp2_with (first
                    | (at_builtin
                       refine wpList_app1 (cs := #[.int .i64 (f0 : Int)]) rfl (.tmp 179) (.tmp 181) 35 rfl sInt HS.out 0 (n := t) rfl rfl rfl (by simp) rfl rfl (by omega) ?_
                       intro A4 c4 w4 hS4 hC4
                       obtain ⟨ad, hA, _, had, hc⟩ := (hO.below hS4.below_).row.at_ hzn
                       obtain rfl : adO = ad := by injection hA
                       have f1 := hc obs[z].val (by simp [List.getElem?_eq_getElem hIl])
                       rw [HOE.out] at f1
                       unfold Ob.val at f1
                       clear hc
                       obtain ⟨ao', hAo', _, hao, hc, hd⟩ := (hE.below hS4.below_).atN hf0n
                       obtain rfl : ao = ao' := by rw [HAO.out] at hAo'; injection hAo'
                       (have f2 := hd 0 _ HV1.out)
                       rw [HX1.out] at f2
                       dsimp only at f2
                       obtain ⟨x1, x2, x3, x4⟩ := hS4.rules 1 (g := w.heap.size) (t := 25) rfl
                       (have x5 : w4.cell? ⟨w.heap.size, 0, none⟩ = some (.slice (some adO) nO cO) := by rw [x1]; rfl)
                       rw [HAO.out] at f1
                       have HS4 := hide hS4
                       clear x1 x4 hc hd hA hS4 hAo'))
                  go_roundw
                  case rel =>
                    refine ⟨t + 1, by omega, rfl, A4, c4, ⟨rfl, rfl, rfl⟩, ?_⟩
                    have h5 : List.take (t + 1) (List.map (Value.int .i64) l) = ints (l.take t) ++ [.int .i64 (f0 : Int)] := by rw [← List.map_take, HTK.out]; simp
                    rw [h5]
                    exact HS4.out
                  case measure => simp [lenV]; omega
                | succ k =>
                  have hk1 : (((k + 1 : Nat) : Int) - 1) = (k : Int) := by omega
                  rw [hk1]
                  have hkn : k < o.n := by omega
                  have hkl : k < o.fields.length := by rw [HFN2.out]; exact hkn
                  obtain ⟨ao, hAo, _, hao, hc, hd⟩ := (hE.below hS.below_).atN hkn
                  obtain ⟨v0, v1⟩ := vals_at o.fields k hkl
                  have c0 := hc _ v0
                  have c1' := hd 0 _ v1
                  have hvz := HVO.out _ (List.getElem_mem hkl)
                  have HX := hide (show (fieldsI gs z)[k]? = some o.fields[k] by rw [HFI.out, List.getElem?_eq_getElem hkl])
                  obtain ⟨x, hx⟩ : ∃ x, o.fields[k] = x := ⟨_, rfl⟩
                  rw [hx] at c0 c1' hvz HX
                  obtain ⟨q, u⟩ := x
                  dsimp only at c0 c1' hvz
                  have HS := hide hS
                  rw [hAo] at e1
                  clear hS hgd' hA hc hd v0 v1 hx g1 g4 hk1 d1
                  go_wp2_with fail
                  have hS2 := HS.out.blkAt 86 #[.bool q, .int .i64 u] rfl
                  obtain ⟨wq, hq⟩ : ∃ wq, wr.alloc (.cells #[.bool q, .int .i64 u] 86) = wq := ⟨_, rfl⟩
                  rw [hq] at hS2 ⊢
                  obtain ⟨x1, x2, x3, x4⟩ := hS2.rules 4 (g := wr.heap.size) (t := 86) rfl
                  have x5 : wq.cell? ⟨wr.heap.size, 0, none⟩ = some (.bool q) := by rw [x1]; rfl
                  have x6 : wq.cell? ⟨wr.heap.size, 1, none⟩ = some (.int .i64 u) := by rw [x1]; rfl
                  have HS2 := hide (hS2.sub (List.take_sublist 4 _))
                  clear x1 x4 hq HS
                  obtain ⟨gd', hgd', d1⟩ := ints_cell (HS2.out.get 2 rfl) z hzn
                  obtain rfl : gd = gd' := by injection hgd' with h; injection h
                  rw [HDI.out, ← HZ.out, HY3.out] at d1
                  have hup : k = f0 → q = true ∧ u = y (t + 1) := fun e => by
                    subst e
                    have h1 := HX.out
                    rw [HFI.out, HFX.out] at h1
                    injection h1 with h1
                    injection h1 with h1 h2
                    exact ⟨h1.symm, h2.symm⟩
                  have hy := HW.out.rng (t + 1) (by omega)
                  cases q with
                  | false =>
                    have HNO := hide (show k ≤ f0 → best = f0 from fun h => by
                      by_cases e : k = f0
                      · cases (hup e).1
                      · exact hQ.out (by omega))
                    clear hgd' hup hy
                    go_quiet (fail)
                    go_wp2_with fail
                    go_roundw
                    case rel => exact ⟨k, best, by omega, rfl, by go_num, HNO, HS2.out.drewN _⟩
                    case measure => simp [intOf]
                  | true =>
                    obtain ⟨z0, z1⟩ := hvz rfl
                    obtain ⟨u', rfl⟩ := int_nat z0
                    have hun : u' < nO := by omega
                    obtain ⟨gd', hgd', d2⟩ := ints_cell (HS2.out.get 2 rfl) u' hun
                    obtain rfl : gd = gd' := by injection hgd' with h; injection h
                    rw [HDI.out] at d2
                    obtain ⟨gb', hgb', b2, b3⟩ := bls_cell (HS2.out.get 3 rfl) u' hun
                    obtain rfl : gb = gb' := by injection hgb' with h; injection h
                    have hall := HALL.out.at_ u' (by rw [HGL.out]; exact hun)
                    obtain ⟨dz, hdz⟩ : ∃ dz, dI gs roots u' = dz := ⟨_, rfl⟩
                    have HDZ := hide hdz
                    rw [hdz] at d2 hall
                    by_cases hcd : bs.getD u' false = true ∧ dz = (t : Int) + 1
                    · obtain ⟨hbz, hz1⟩ := hcd
                      rw [hbz] at b2
                      have t2 : (dz == (t : Int) + 1) = true := by simp [hz1]
                      have HYES := hide (show k ≤ f0 → (k : Int) = f0 from fun h => by
                        by_cases e : k = f0
                        · rw [e]
                        · exact (HMIN.out k u' (by omega) HX.out ((hall (by omega)).1 hbz) (by rw [HDZ.out, ← HZ.out, HY3.out]; exact hz1)).elim)
                      clear hgd' hgb' hup hy hall hdz hbz hz1
                      go_quiet (fail)
                      go_wp2_with fail
                      go_roundw
                      case rel => exact ⟨k, k, by omega, rfl, by go_num, HYES, HS2.out.drewN _⟩
                      case measure => simp [intOf]
                    · have HNO := hide (show k ≤ f0 → best = f0 from fun h => by
                        by_cases e : k = f0
                        · have h3 := (hup e).2
                          have hy1 := hy.2.2
                          rw [← h3, HDZ.out] at hy1
                          exact (hcd ⟨(hall (by omega)).2 hy1.2, by omega⟩).elim
                        · exact hQ.out (by omega))
                      cases hbz : bs.getD u' false with
                      | false =>
                        rw [hbz] at b2
                        clear hgd' hgb' hup hy hall hdz hbz hcd
                        go_quiet (fail)
                        go_wp2_with fail
                        go_roundw
                        case rel => exact ⟨k, best, by omega, rfl, by go_num, HNO, HS2.out.drewN _⟩
                        case measure => simp [intOf]
                      | true =>
                        rw [hbz] at b2
                        have t2 : (dz == (t : Int) + 1) = false := by
                          simp only [beq_eq_false_iff_ne, ne_eq]
                          exact fun e => hcd ⟨hbz, e⟩
                        clear hgd' hgb' hup hy hall hdz hbz hcd
                        go_quiet (fail)
                        go_wp2_with fail
                        go_roundw
                        case rel => exact ⟨k, best, by omega, rfl, by go_num, HNO, HS2.out.drewN _⟩
                        case measure => simp [intOf]
            · obtain rfl : t = l.length := by omega
              have HS := hide hS
              clear hS hgd' y1 y2 y3 y4 hz
              go_wp2_with fail
              go_quiet (fail)
              go_wp2_with fail
              go_ret3
              have h9 := HS.out
              rw [List.take_length] at h9
              have h8 := fun n => (h9.drewN n).sub (List.take_sublist 1 _)
              exact ⟨A, c, rfl, h8 _⟩
        | succ k =>
          have hk1 : (((k + 1 : Nat) : Int) - 1) = (k : Int) := by omega
          rw [hk1]
          have hkl : k < roots.length := by rw [HRL.out]; omega
          have hkn : k < nR := by omega
          obtain ⟨ao, hAo, _, hao, hc, hd⟩ := (hR.below hS.below_).atN hkn
          obtain rfl : arO = ao := by injection hAo
          clear hAo
          obtain ⟨v0, v1⟩ := vals_at roots k hkl
          have c0 := hc _ v0
          have c1 := hd 0 _ v1
          have hvz := HVR.out _ (List.getElem_mem hkl)
          have HX := hide (show roots[k]? = some roots[k] from List.getElem?_eq_getElem hkl)
          obtain ⟨x, hx⟩ : ∃ x, roots[k] = x := ⟨_, rfl⟩
          rw [hx] at c0 c1 hvz HX
          obtain ⟨q, z⟩ := x
          dsimp only at c0 c1 hvz
          have hgdl := hS.hi 1 rfl gd rfl
          have hgbl := hS.hi 2 rfl gb rfl
          obtain ⟨g1, g2, g3, g4⟩ := hS.rules 0 (g := w.heap.size) (t := 25) rfl
          have g6 : wr.cell? ⟨w.heap.size, 1, none⟩ = some (.slice (some arO) nR cR) := by rw [g1]; rfl
          have HS := hide hS
          cases q with
          | false =>
            have HNO := hide (show k ≤ r → root = r ∧ at_ = y 0 from fun h => by
              by_cases e : k = r
              · subst e
                have := HW.out.root.2
                rw [HX.out] at this
                cases this
              · exact hQ.out (by omega))
            clear hS hc hd v0 v1 hx g1 g4 hk1
            go_wp2_with fail
            go_roundw
            case rel => exact ⟨k, root, at_, by omega, rfl, rfl, by go_num, HNO, HS.out.alloc _⟩
            case measure => simp [intOf]
          | true =>
            obtain ⟨z0, z1⟩ := hvz rfl
            obtain ⟨z, rfl⟩ := int_nat z0
            rw [HGL.out] at z1
            have hzn : z < nO := by omega
            obtain ⟨gd', hgd', d1⟩ := ints_cell (hS.get 1 rfl) z hzn
            obtain rfl : gd = gd' := by injection hgd' with h; injection h
            rw [HDI.out] at d1
            obtain ⟨gb', hgb', b2, b3⟩ := bls_cell (hS.get 2 rfl) z hzn
            obtain rfl : gb = gb' := by injection hgb' with h; injection h
            have hall := HALL.out.at_ z (by rw [HGL.out]; exact hzn)
            obtain ⟨dz, hdz⟩ : ∃ dz, dI gs roots z = dz := ⟨_, rfl⟩
            have HDZ := hide hdz
            rw [hdz] at d1 hall
            have hy0 : k = r → (z : Int) = y 0 := fun e => by
              subst e
              have h1 := HW.out.root.2
              rw [HX.out] at h1
              injection h1 with h1; injection h1
            have hy1 := (HW.out.rng 0 (by omega)).2.2
            by_cases hcd : bs.getD z false = true ∧ dz = 0
            · obtain ⟨hbz, hz1⟩ := hcd
              rw [hbz] at b2
              rw [hz1] at d1
              have HYES := hide (show k ≤ r → ((k : Int) = r ∧ (z : Int) = y 0) from fun h => by
                by_cases e : k = r
                · exact ⟨by rw [e], hy0 e⟩
                · exact (HW.out.rmin k z (by omega) HX.out ((hall (by omega)).1 hbz) (by rw [HDZ.out]; exact hz1)).elim)
              clear hS hc hd v0 v1 hx g1 g4 hk1 hgd' hgb' hall hdz hy0 hy1 hbz hz1
              go_wp2_with fail
              go_roundw
              case rel => exact ⟨k, k, z, by omega, rfl, rfl, by go_num, HYES, HS.out.alloc _⟩
              case measure => simp [intOf]
            · have HNO := hide (show k ≤ r → root = r ∧ at_ = y 0 from fun h => by
                by_cases e : k = r
                · have h3 := hy0 e
                  rw [← h3] at hy1
                  rw [HDZ.out] at hy1
                  exact (hcd ⟨(hall (by omega)).2 hy1.2, hy1.1⟩).elim
                · exact hQ.out (by omega))
              cases hbz : bs.getD z false with
              | false =>
                rw [hbz] at b2
                clear hS hc hd v0 v1 hx g1 g4 hk1 hgd' hgb' hall hdz hy0 hy1 hbz hcd
                go_wp2_with fail
                go_roundw
                case rel => exact ⟨k, root, at_, by omega, rfl, rfl, by go_num, HNO, HS.out.alloc _⟩
                case measure => simp [intOf]
              | true =>
                rw [hbz] at b2
                have t2 : (dz == 0) = false := by
                  simp only [beq_eq_false_iff_ne, ne_eq]
                  exact fun e => hcd ⟨hbz, e⟩
                clear hS hc hd v0 v1 hx g1 g4 hk1 hgd' hgb' hall hdz hy0 hy1 hbz hcd
                go_wp2_with fail
                go_roundw
                case rel => exact ⟨k, root, at_, by omega, rfl, rfl, by go_num, HNO, HS.out.alloc _⟩
                case measure => simp [intOf]
    | succ k =>
      have hk1 : (((k + 1 : Nat) : Int) - 1) = (k : Int) := by omega
      rw [hk1] at hON ⊢
      have HONA := hide (onA hON.out)
      have HS := hide hS
      clear hS hON hk1
      go_wp2_with fail
      go_loopw [11, 13] (fun s11 _ wr => ∃ (I : Nat) (bs : List Bool), I ≤ nO ∧ s11 = .int .i64 I ∧ Hid (OnS gs bs (P1 gs roots v (k : Int) I)) ∧ Sep No w wr [blkI w.heap.size 25 #[.slice (some adO) nO cO, .slice (some arO) nR cR], rowI 3 1 (some ⟨gd, 0, none⟩) nO c1 (ints L), rowI 4 1 (some ⟨gb, 0, none⟩) nO nO (bls bs)]) (fun s _ _ => nO - (intOf s).toNat)
      case atStart => exact ⟨0, bs, by omega, rfl, HONA, HS.out⟩
      case round =>
        clear HS HONA
        obtain ⟨I, bs, hI, rfl, hON, hS⟩ := hrel
        by_cases hlt : I < nO
        · have hIl : I < obs.length := by rw [HOL.out]; exact hlt
          have hO' := hO.below hS.below_
          obtain ⟨ad, hA, _, had, hc⟩ := hO'.row.at_ hlt
          obtain rfl : adO = ad := by injection hA
          clear hA
          have e1 := hc obs[I].val (by simp [List.getElem?_eq_getElem hIl])
          have hE := hO.each _ (List.getElem_mem hIl)
          have hfi := HOB.out I hIl
          have hfn := HFN.out _ (List.getElem_mem hIl)
          have hon := HFL.out _ (List.getElem_mem hIl)
          have hvo := fieldsI_ok HVG.out (I : Int)
          rw [HGL.out] at hvo
          obtain ⟨o, ho⟩ : ∃ o, obs[I] = o := ⟨_, rfl⟩
          rw [ho] at e1 hE hfi hfn hon
          rw [hfi] at hvo
          unfold Ob.val at e1
          obtain ⟨g1, g2, g3, g4⟩ := hS.rules 0 (g := w.heap.size) (t := 25) rfl
          have g5 : wr.cell? ⟨w.heap.size, 0, none⟩ = some (.slice (some adO) nO cO) := by rw [g1]; rfl
          have HONB := hide (onB hON.out)
          have HS := hide hS
          have HFI := hide hfi
          have HFN2 := hide hfn
          have HVO := hide hvo
          clear hS hON hO' hc ho hfi hfn hvo g1 g4
          go_wp2_with fail
          go_loopw [13, 58] (fun _ i wr => ∃ (f : Nat) (bs : List Bool), f ≤ o.n ∧ i = .int .i64 f ∧ Hid (OnS gs bs (P2 gs roots v (k : Int) I f)) ∧ Sep No w wr [blkI w.heap.size 25 #[.slice (some adO) nO cO, .slice (some arO) nR cR], rowI 3 1 (some ⟨gd, 0, none⟩) nO c1 (ints L), rowI 4 1 (some ⟨gb, 0, none⟩) nO nO (bls bs)]) (fun _ i _ => o.n - (intOf i).toNat)
          case atStart => exact ⟨0, bs, by omega, rfl, HONB, HS.out⟩
          case round =>
            clear HS HONB g5 e1 g2 g3
            obtain ⟨f, bs, hf, rfl, hON, hS⟩ := hrel
            by_cases hfl : f < o.n
            · have hkl : f < o.fields.length := by rw [HFN2.out]; exact hfl
              obtain ⟨ao, hAo, _, hao, hc, hd⟩ := (hE.below hS.below_).atN hfl
              obtain ⟨v0, v1⟩ := vals_at o.fields f hkl
              have c0 := hc _ v0
              have c1 := hd 0 _ v1
              have hvz := HVO.out _ (List.getElem_mem hkl)
              have HX := hide (show (fieldsI gs I)[f]? = some o.fields[f] by rw [HFI.out, List.getElem?_eq_getElem hkl])
              obtain ⟨x, hx⟩ : ∃ x, o.fields[f] = x := ⟨_, rfl⟩
              rw [hx] at c0 c1 hvz HX
              obtain ⟨q, z⟩ := x
              dsimp only at c0 c1 hvz
              obtain ⟨gd', hgd', d0⟩ := ints_cell (hS.get 1 rfl) I hlt
              obtain rfl : gd = gd' := by injection hgd' with h; injection h
              rw [HDI.out] at d0
              obtain ⟨gb', hgb', b0, b1⟩ := bls_cell (hS.get 2 rfl) I hlt
              obtain rfl : gb = gb' := by injection hgb' with h; injection h
              have hgdl := hS.hi 1 rfl gd rfl
              have hgbl := hS.hi 2 rfl gb rfl
              have HS := hide hS
              obtain ⟨dx, hdx⟩ : ∃ dx, dI gs roots I = dx := ⟨_, rfl⟩
              have HDX := hide hdx
              rw [hdx] at d0
              rw [hAo]
              by_cases hdk : dx = (k : Int)
              · have t1 : (dx == (k : Int)) = true := by simp [hdk]
                cases q with
                | false =>
                  have HNO := hide (onC_no hON.out (fun _ x h => by rw [HX.out] at h; cases h))
                  have HDK := hide hdk
                  clear hS hc hd v0 v1 hx hdx hdk hgd' hgb'
                  go_wp2_with fail
                  go_roundw
                  case rel => exact ⟨f + 1, bs, by omega, by go_num, HNO, HS.out.alloc _⟩
                  case measure => simp [intOf]; omega
                | true =>
                  obtain ⟨z0, z1⟩ := hvz rfl
                  obtain ⟨z, rfl⟩ := int_nat z0
                  have hzn : z < nO := by omega
                  obtain ⟨gd', hgd', d1⟩ := ints_cell (hS.get 1 rfl) z hzn
                  obtain rfl : gd = gd' := by injection hgd' with h; injection h
                  rw [HDI.out] at d1
                  obtain ⟨gb', hgb', b2, b3⟩ := bls_cell (hS.get 2 rfl) z hzn
                  obtain rfl : gb = gb' := by injection hgb' with h; injection h
                  have hfar := onS_far hON.out z (by rw [HGL.out]; exact hzn)
                  obtain ⟨dz, hdz⟩ : ∃ dz, dI gs roots z = dz := ⟨_, rfl⟩
                  have HDZ := hide hdz
                  rw [hdz] at d1 hfar
                  cases hbz : bs.getD z false with
                  | false =>
                    rw [hbz] at b2 hfar
                    have HNO := hide (onC_no hON.out (fun _ x h h2 h3 => by
                      rw [HX.out] at h
                      injection h with h; injection h with _ h
                      subst h
                      rw [HDZ.out] at h3
                      have := (hfar h3).2 h2
                      cases this))
                    have HDK := hide hdk
                    clear hS hc hd v0 v1 hx hdx hdk hgd' hgb' hfar hdz hbz
                    go_wp2_with fail
                    go_roundw
                    case rel => exact ⟨f + 1, bs, by omega, by go_num, HNO, HS.out.alloc _⟩
                    case measure => simp [intOf]; omega
                  | true =>
                    rw [hbz] at b2 hfar
                    by_cases hz1 : dz = (k : Int) + 1
                    · have t2 : (dz == (k : Int) + 1) = true := by simp [hz1]
                      have HYES := hide (onC_yes (by rw [HGL.out]; exact hlt) hON.out (by rw [HDX.out]; exact hdk) HX.out ((hfar hz1).1 rfl) (by rw [HDZ.out]; exact hz1))
                      have HDK := hide hdk
                      have HZ1 := hide hz1
                      clear hS hc hd v0 v1 hx hdx hdk hgd' hgb' hfar hdz hbz hz1
                      go_wp2_with fail
                      go_roundw
                      case rel =>
                        have h9 := HS.out.store 2 (g := gb) rfl I (.bool true)
                        rw [bls_set] at h9
                        exact ⟨f + 1, bs.set I true, by omega, by go_num, HYES, h9.alloc _⟩
                      case measure => simp [intOf]; omega
                    · have t2 : (dz == (k : Int) + 1) = false := by simp [hz1]
                      have HNO := hide (onC_no hON.out (fun _ x h h2 h3 => by
                        rw [HX.out] at h
                        injection h with h; injection h with _ h
                        subst h
                        rw [HDZ.out] at h3
                        exact hz1 h3))
                      have HDK := hide hdk
                      clear hS hc hd v0 v1 hx hdx hdk hgd' hgb' hfar hdz hbz hz1
                      go_wp2_with fail
                      go_roundw
                      case rel => exact ⟨f + 1, bs, by omega, by go_num, HNO, HS.out.alloc _⟩
                      case measure => simp [intOf]; omega
              · have t1 : (dx == (k : Int)) = false := by simp [hdk]
                have HNO := hide (onC_no hON.out (fun h => absurd (by rw [HDX.out] at h; exact h) hdk))
                have HDK := hide hdk
                clear hS hc hd v0 v1 hx hdx hdk hgd' hgb'
                go_wp2_with fail
                go_roundw
                case rel => exact ⟨f + 1, bs, by omega, by go_num, HNO, HS.out.alloc _⟩
                case measure => simp [intOf]; omega
            · obtain rfl : f = o.n := by omega
              have HOND := hide (onD hON.out (by rw [HFI.out, HFN2.out]; exact Nat.le_refl _) (by rw [hdv]; omega))
              have HS := hide hS
              clear hON hS
              go_wp2_with fail
              go_roundw
              case rel => exact ⟨I + 1, bs, by omega, by go_num, HOND, HS.out⟩
              case measure => simp [intOf]; omega
        · obtain rfl : I = nO := by omega
          have HONE := hide (onE (by rw [HGL.out]; exact hON.out))
          have HS := hide hS
          clear hON hS
          go_wp2_with fail
          go_roundw
          case rel => exact ⟨k, bs, by omega, by go_num, HONE, HS.out⟩
          case measure => simp [intOf]
end Go.Proofs.Ytaajkldhnjoicaa

namespace Go.Proofs.Ytaajkldhnjoicaa
open Go.RowKit

theorem gvals_wf {w : World} {D : Nat → Prop} {AO : Option Addr} {nO nR : Nat} {obs : List Ob} {roots : List Val} (hO : ObsRd w D AO nO obs) (h : gcheck nO nR obs roots = 0) : (∀ v ∈ roots, (Lit.int .i64 v.2).wf = true) ∧ ∀ o ∈ obs, ∀ v ∈ o.fields, (Lit.int .i64 v.2).wf = true := by
  have hG := gok_of hO h
  have key : ∀ v ∈ allVals obs roots, (Lit.int .i64 v.2).wf = true := fun v hv => by
    unfold gcheck at h
    split at h
    · omega
    rename_i h1
    split at h
    · omega
    rename_i h2
    split at h
    · omega
    rename_i h3
    have h4 := List.any_eq_false.1 (Bool.eq_false_iff.2 h2) v hv
    have h5 := List.any_eq_false.1 (Bool.eq_false_iff.2 h3) v hv
    obtain ⟨q, z⟩ := v
    unfold badArg at h4
    unfold badRange at h5
    have := hG.nO_
    refine WalkArith.wf_i64 ?_
    cases q <;> simp at h4 h5 ⊢ <;> omega
  exact ⟨fun v hv => key v (List.mem_append_left _ hv), fun o ho v hv => key v (List.mem_append_right _ (List.mem_flatMap.2 ⟨o, ho, hv⟩))⟩

set_option maxRecDepth 100000 in
set_option maxHeartbeats 4000000 in
theorem pathTells_no (w : World) (AO AR : Option Addr) (nO cO nR cR : Nat) (v : Int) (obs : List Ob) (roots : List Val) (hO : ObsRd w (fun _ => True) AO nO obs) (hR : Rd w (fun _ => True) 2 AR nR (vals roots)) (hz : gcheck nO nR obs roots ≠ 0) :
    Calls Try.prog 4 #[.agg #[.slice AO nO cO, .slice AR nR cR], .int .i64 v] w fun e w' => e = .returned (.bool true) ∧ Below w.heap.size w w' := by
  have hB0 : Below w.heap.size w (w.alloc (.cells #[.slice AO nO cO, .slice AR nR cR] 25)) := (Below.refl _ w).alloc (Nat.le_refl _) _
  have BA := hide (Blk.new w 25 #[.slice AO nO cO, .slice AR nR cR])
  have HB0 := hide hB0
  have C1 := hide (fun w' (hb : Below w.heap.size w w') => path_bad w' AO AR nO cO nR cR v obs roots (hO.below hb) (hR.below hb) hz)
  have C4 := hide (fun w' (hb : Below w.heap.size w w') => refCheck_any w' AO AR nO cO nR cR obs roots (hO.below hb) (hR.below hb))
  obtain ⟨x, hx⟩ : ∃ x, gcheck nO nR obs roots = x := ⟨_, rfl⟩
  simp only [hx] at C1 C4
  rw [hx] at hz
  have y1 : (x != 0) = true := by rw [bne_iff_ne]; exact hz
  have y2 : (x == 0) = false := by simp [hz]
  obtain ⟨a1, a2, a3⟩ := BA.out.rules
  clear hz hx hB0
  go_enter Try.func4, Try.ntmps4
  go_wp2_with fail
  refine (C1.out _ HB0.out).mono ?_
  rintro e w1 ⟨rfl, hb1⟩
  have HB1 := hide (HB0.out.trans (hb1.mono HB0.out.size))
  have BA1 := hide (BA.out.below_ hb1)
  clear hb1 HB0 BA C1 a1 a2 a3
  obtain ⟨a1, a2, a3⟩ := BA1.out.rules
  go_wp2_with fail
  refine (C4.out _ HB1.out).mono ?_
  rintro e w4 ⟨rfl, hb4⟩
  have HB4 := hide (HB1.out.trans (hb4.mono HB1.out.size))
  clear hb4 HB1 BA1 C4 a1 a2 a3
  go_wp2_with fail
  go_ret
  exact ⟨rfl, HB4.out⟩

set_option maxRecDepth 100000 in
set_option maxHeartbeats 4000000 in
theorem pathTells_arg (w : World) (AO AR : Option Addr) (nO cO nR cR : Nat) (v : Int) (obs : List Ob) (roots : List Val) (hO : ObsRd w (fun _ => True) AO nO obs) (hR : Rd w (fun _ => True) 2 AR nR (vals roots)) (hz : gcheck nO nR obs roots = 0) (hv : v < 0 ∨ (nO : Int) ≤ v) :
    Calls Try.prog 4 #[.agg #[.slice AO nO cO, .slice AR nR cR], .int .i64 v] w fun e w' => e = .returned (.bool true) ∧ Below w.heap.size w w' := by
  have hB0 : Below w.heap.size w (w.alloc (.cells #[.slice AO nO cO, .slice AR nR cR] 25)) := (Below.refl _ w).alloc (Nat.le_refl _) _
  have BA := hide (Blk.new w 25 #[.slice AO nO cO, .slice AR nR cR])
  have HB0 := hide hB0
  have C1 := hide (fun w' (hb : Below w.heap.size w w') => path_arg w' AO AR nO cO nR cR v obs roots (hO.below hb) (hR.below hb) hz hv)
  have C4 := hide (fun w' (hb : Below w.heap.size w w') => refCheck_any w' AO AR nO cO nR cR obs roots (hO.below hb) (hR.below hb))
  simp only [hz] at C4
  obtain ⟨a1, a2, a3⟩ := BA.out.rules
  clear hz hB0
  rcases (show v < 0 ∨ (¬ v < 0 ∧ (nO : Int) ≤ v) by omega) with h1 | ⟨h1, h2⟩
  all_goals
    clear hv
    go_enter Try.func4, Try.ntmps4
    go_wp2_with fail
    refine (C1.out _ HB0.out).mono ?_
    rintro e w1 ⟨rfl, hb1⟩
    have HB1 := hide (HB0.out.trans (hb1.mono HB0.out.size))
    have BA1 := hide (BA.out.below_ hb1)
    clear hb1 HB0 BA C1 a1 a2 a3
    obtain ⟨a1, a2, a3⟩ := BA1.out.rules
    go_wp2_with fail
    refine (C4.out _ HB1.out).mono ?_
    rintro e w4 ⟨rfl, hb4⟩
    have HB4 := hide (HB1.out.trans (hb4.mono HB1.out.size))
    have BA4 := hide (BA1.out.below_ hb4)
    clear hb4 HB1 BA1 C4 a1 a2 a3
    obtain ⟨a1, a2, a3⟩ := BA4.out.rules
    go_wp2_with fail
    go_ret
    exact ⟨rfl, HB4.out⟩

set_option maxRecDepth 100000 in
set_option maxHeartbeats 4000000 in
theorem pathTells_none (w : World) (AO AR : Option Addr) (nO cO nR cR : Nat) (v : Nat) (obs : List Ob) (roots : List Val) (hO : ObsRd w (fun _ => True) AO nO obs) (hR : Rd w (fun _ => True) 2 AR nR (vals roots)) (hz : gcheck nO nR obs roots = 0) (hv : v < nO) (hd : dI (obs.map Ob.fields) roots v < 0) :
    Calls Try.prog 4 #[.agg #[.slice AO nO cO, .slice AR nR cR], .int .i64 v] w fun e w' => e = .returned (.bool true) ∧ Below w.heap.size w w' := by
  have hB0 : Below w.heap.size w (w.alloc (.cells #[.slice AO nO cO, .slice AR nR cR] 25)) := (Below.refl _ w).alloc (Nat.le_refl _) _
  have BA := hide (Blk.new w 25 #[.slice AO nO cO, .slice AR nR cR])
  have HB0 := hide hB0
  have hG := gok_of hO hz
  have hrl := roots_len hR
  have hF := PFin.all hG.vg hG.vr hG.fs (by have := hG.nR_; omega)
  have hno : (v : Int) ∉ (pAll (obs.map Ob.fields) roots).map (·.1) := fun h => by
    obtain ⟨s, hs, he⟩ := List.mem_map.1 h
    obtain ⟨i, hi, rfl⟩ := List.mem_iff_getElem.1 hs
    rw [p_at hi] at he
    have := (hF.there v (by omega) (by rw [hG.len]; omega)).2 ⟨i, hi, he⟩
    omega
  have C1 := hide (fun w' (hb : Below w.heap.size w w') => path_none w' AO AR nO cO nR cR v obs roots (hO.below hb) (hR.below hb) hz (gvals_wf hO hz) (by omega) (by omega) hno)
  have C4 := hide (fun w' (hb : Below w.heap.size w w') => refCheck_any w' AO AR nO cO nR cR obs roots (hO.below hb) (hR.below hb))
  have C5 := hide (fun w' (hb : Below w.heap.size w w') => refPath_none w' AO AR nO cO nR cR v obs roots (hO.below hb) (hR.below hb) hG hv hd)
  have C6 := hide (fun w' => ints_same w' (fun _ => True) (fun _ => True) none none 0 0 0 [] (by omega) Rd.nil Rd.nil)
  simp only [hz] at C4
  obtain ⟨a1, a2, a3⟩ := BA.out.rules
  clear hz hB0 hG hF hno hd
  go_enter Try.func4, Try.ntmps4
  go_wp2_with fail
  refine (C1.out _ HB0.out).mono ?_
  rintro e w1 ⟨rfl, hb1⟩
  have HB1 := hide (HB0.out.trans (hb1.mono HB0.out.size))
  have BA1 := hide (BA.out.below_ hb1)
  clear hb1 HB0 BA C1 a1 a2 a3
  obtain ⟨a1, a2, a3⟩ := BA1.out.rules
  go_wp2_with fail
  refine (C4.out _ HB1.out).mono ?_
  rintro e w4 ⟨rfl, hb4⟩
  have HB4 := hide (HB1.out.trans (hb4.mono HB1.out.size))
  have BA4 := hide (BA1.out.below_ hb4)
  clear hb4 HB1 BA1 C4 a1 a2 a3
  obtain ⟨a1, a2, a3⟩ := BA4.out.rules
  have a5 : w4.cell? ⟨w.heap.size, 0, none⟩ = some (.slice AO nO cO) := by rw [a1]; rfl
  go_wp2_with fail
  refine (C5.out _ HB4.out).mono ?_
  rintro e w5 ⟨rfl, hb5⟩
  have HB5 := hide (HB4.out.trans (hb5.mono HB4.out.size))
  clear hb5 HB4 BA4 C5 a1 a2 a3 a5
  go_wp2_with fail
  refine (C6.out w5).mono ?_
  rintro e w6 ⟨rfl, hb6⟩
  have HB6 := hide (HB5.out.trans (hb6.mono HB5.out.size))
  clear hb6 HB5
  go_wp2_with fail
  go_ret
  exact ⟨rfl, HB6.out⟩

set_option maxRecDepth 100000 in
set_option maxHeartbeats 4000000 in
theorem pathTells_ok (w : World) (AO AR : Option Addr) (nO cO nR cR : Nat) (v : Nat) (obs : List Ob) (roots : List Val) (hO : ObsRd w (fun _ => True) AO nO obs) (hR : Rd w (fun _ => True) 2 AR nR (vals roots)) (hz : gcheck nO nR obs roots = 0) (hv : v < nO) (hd : 0 ≤ dI (obs.map Ob.fields) roots v) :
    Calls Try.prog 4 #[.agg #[.slice AO nO cO, .slice AR nR cR], .int .i64 v] w fun e w' => e = .returned (.bool true) ∧ Below w.heap.size w w' := by
  have hB0 : Below w.heap.size w (w.alloc (.cells #[.slice AO nO cO, .slice AR nR cR] 25)) := (Below.refl _ w).alloc (Nat.le_refl _) _
  have BA := hide (Blk.new w 25 #[.slice AO nO cO, .slice AR nR cR])
  have HB0 := hide hB0
  have hG := gok_of hO hz
  have hrl := roots_len hR
  have hF := PFin.all hG.vg hG.vr hG.fs (by have := hG.nR_; omega)
  obtain ⟨i, hi, hiv⟩ := (hF.there v (by omega) (by rw [hG.len]; omega)).1 hd
  obtain ⟨r, l, hw⟩ := hF.way i hi
  have hfl8 : ∀ x, (fieldsI (obs.map Ob.fields) x).length ≤ 8 := fun x => by
    unfold fieldsI
    rw [List.getD_eq_getElem?_getD]
    rcases Nat.lt_or_ge x.toNat (obs.map Ob.fields).length with h | h
    · rw [List.getElem?_eq_getElem h]; have := hG.fs _ (List.getElem_mem h); simp only [Option.getD_some]; omega
    · rw [List.getElem?_eq_none h]; simp
  obtain ⟨y, hW⟩ := wayF_of hF hfl8 hw
  rw [hiv] at hW
  have hll : l.length ≤ 24 := by
    have h1 := hw.le hF
    have h2 := hF.ok.len
    rw [List.length_map, hG.len] at h2
    have := hG.nO_
    omega
  have C1 := hide (fun w' (hb : Below w.heap.size w w') => path_ok w' AO AR nO cO nR cR v obs roots (hO.below hb) (hR.below hb) hz (gvals_wf hO hz) (by omega) (by omega) _ rfl hF i r l hi hiv hw)
  have C4 := hide (fun w' (hb : Below w.heap.size w w') => refCheck_any w' AO AR nO cO nR cR obs roots (hO.below hb) (hR.below hb))
  have C5 := hide (fun w' (hb : Below w.heap.size w w') => refPath_ok w' AO AR nO cO nR cR v obs roots (hO.below hb) (hR.below hb) hG hv r l y hW hll)
  simp only [hz] at C4
  obtain ⟨a1, a2, a3⟩ := BA.out.rules
  clear hz hB0 hG hF hd hi hiv hw hW hfl8
  go_enter Try.func4, Try.ntmps4
  go_wp2_with fail
  refine (C1.out _ HB0.out).mono ?_
  rintro e w1 ⟨A1, c1, rfl, hP1⟩
  have hb1 := hP1.below_
  have HB1 := hide (HB0.out.trans (hb1.mono HB0.out.size))
  have BA1 := hide (BA.out.below_ hb1)
  have HT1 := hide (hP1.rd_ 0 rfl)
  clear hb1 hP1 HB0 BA C1 a1 a2 a3
  obtain ⟨a1, a2, a3⟩ := BA1.out.rules
  go_wp2_with fail
  refine (C4.out _ HB1.out).mono ?_
  rintro e w4 ⟨rfl, hb4⟩
  have HB4 := hide (HB1.out.trans (hb4.mono HB1.out.size))
  have BA4 := hide (BA1.out.below_ hb4)
  have HT4 := hide (HT1.out.below hb4)
  clear hb4 HB1 BA1 C4 HT1 a1 a2 a3
  obtain ⟨a1, a2, a3⟩ := BA4.out.rules
  have a5 : w4.cell? ⟨w.heap.size, 0, none⟩ = some (.slice AO nO cO) := by rw [a1]; rfl
  go_wp2_with fail
  refine (C5.out _ HB4.out).mono ?_
  rintro e w5 ⟨A5, c5, rfl, hP5⟩
  have hb5 := hP5.below_
  have HB5 := hide (HB4.out.trans (hb5.mono HB4.out.size))
  have C6 := hide (ints_same w5 _ _ A1 A5 l.length c1 c5 l (by omega) (HT4.out.below hb5) (hP5.rd_ 0 rfl))
  clear hb5 hP5 HB4 BA4 C5 HT4 a1 a2 a3 a5
  go_wp2_with fail
  refine C6.out.mono ?_
  rintro e w6 ⟨rfl, hb6⟩
  have HB6 := hide (HB5.out.trans (hb6.mono HB5.out.size))
  clear hb6 HB5
  go_wp2_with fail
  go_ret
  exact ⟨rfl, HB6.out⟩
theorem pathTells_walk (w : World) (AO AR : Option Addr) (nO cO nR cR : Nat) (v : Int) (obs : List Ob) (roots : List Val) (hO : ObsRd w (fun _ => True) AO nO obs) (hR : Rd w (fun _ => True) 2 AR nR (vals roots)) :
    Calls Try.prog 4 #[.agg #[.slice AO nO cO, .slice AR nR cR], .int .i64 v] w fun e w' => e = .returned (.bool true) ∧ Below w.heap.size w w' := by
  by_cases hz : gcheck nO nR obs roots = 0
  · by_cases hv : v < 0 ∨ (nO : Int) ≤ v
    · exact pathTells_arg w AO AR nO cO nR cR v obs roots hO hR hz hv
    · obtain ⟨z, rfl⟩ := int_nat (show 0 ≤ v by omega)
      by_cases hd : 0 ≤ dI (obs.map Ob.fields) roots z
      · exact pathTells_ok w AO AR nO cO nR cR z obs roots hO hR hz (by omega) hd
      · exact pathTells_none w AO AR nO cO nR cR z obs roots hO hR hz (by omega) (by omega)
  · exact pathTells_no w AO AR nO cO nR cR v obs roots hO hR hz
end Go.Proofs.Ytaajkldhnjoicaa
