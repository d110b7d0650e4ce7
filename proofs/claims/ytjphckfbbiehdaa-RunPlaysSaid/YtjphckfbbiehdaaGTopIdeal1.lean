/- A memory with so many words, plain: what keeps it whole. A memory with so many words: what it has in memory; an object's size; the row of objects by place. Contracts of the library, laid by the shelf. -/
import Derived.Test.YtjphckfbbiehdaaGTopIdeal0
import Derived.BigQuiet
import Derived.Test.YtjphckfbbiehdaaGTriPlays2
import Derived.Shelf.SlGeneric
import Derived.Shelf.SlSortCmp.Whole1
import Derived.Test.YtjphckfbbiehdaaProg
set_option linter.unusedSimpArgs false
set_option linter.unusedVariables false
namespace Go.Proofs.Ytjphckfbbiehdaa

structure RnOk (W : Int) (a : RnA) : Prop where
  w0 : 0 ≤ W
  r8 : a.regs.length = 8
  cl : a.ats.length = a.objs.length
  vr : ∀ v ∈ a.regs, a.vok v
  vf : ∀ i fs v, a.fld i = some fs → v ∈ fs → a.vok v
  f4 : ∀ i fs, a.fld i = some fs → fs.length ≤ 4
  ap : Apart W a.at_ a.sz (thereL a.objs)
theorem RnA.fld_iff {a : RnA} {i : Nat} {fs : List Val} : a.fld i = some fs ↔ a.objs[i]? = some (some fs) := by
  unfold RnA.fld
  cases a.objs[i]? with
  | none => simp
  | some o => simp
theorem RnA.fld_lt {a : RnA} {i : Nat} {fs : List Val} (h : a.fld i = some fs) : i < a.objs.length := (List.getElem?_eq_some_iff.1 (RnA.fld_iff.1 h)).1
theorem RnA.there {a : RnA} {x : Int} : x ∈ thereL a.objs ↔ ∃ (i : Nat) (fs : List Val), x = (i : Int) ∧ a.fld i = some fs := by
  rw [mem_thereL]
  constructor
  · rintro ⟨i, fs, h1, h2⟩; exact ⟨i, fs, h1, RnA.fld_iff.2 h2⟩
  · rintro ⟨i, fs, h1, h2⟩; exact ⟨i, fs, h1, RnA.fld_iff.1 h2⟩
theorem thereL_nodup {α : Type} (l : List (Option α)) : (thereL l).Nodup := by
  unfold thereL thereK
  rw [List.nodup_iff_pairwise_ne, List.pairwise_map]
  have h : (List.range l.length).Nodup := List.nodup_range
  rw [List.nodup_iff_pairwise_ne] at h
  exact (h.filter _).imp fun h1 h2 => h1 (by omega)
theorem RnA.sz_pos (a : RnA) (x : Int) : 0 < a.sz x := by unfold RnA.sz; omega
theorem RnA.row_perm (a : RnA) : a.row.Perm (thereL a.objs) := List.mergeSort_perm _ _
theorem RnA.row_sorted (a : RnA) : a.row.Pairwise fun x y => a.at_ x ≤ a.at_ y :=
  (List.pairwise_mergeSort (fun _ _ _ h1 h2 => by simp at *; omega) (fun _ _ => by simp; omega) _).imp fun h => by simpa using h
theorem Apart.perm {W : Int} {f s : Int → Int} {l m : List Int} (h : Apart W f s l) (hp : ∀ x, x ∈ m → x ∈ l) : Apart W f s m :=
  ⟨fun x hx => h.lo x (hp x hx), fun x hx => h.hi x (hp x hx), fun x hx y hy => h.ap x (hp x hx) y (hp y hy)⟩
theorem RnOk.lad {W : Int} {a : RnA} (ok : RnOk W a) : Lad W a.at_ a.sz 0 a.row := by
  have hm : ∀ x, x ∈ a.row → x ∈ thereL a.objs := fun x hx => a.row_perm.mem_iff.1 hx
  exact lad_of (fun x _ => a.sz_pos x) (a.row_perm.nodup_iff.2 (thereL_nodup _)) (ok.ap.perm hm) a.row_sorted ok.w0 fun x hx => ok.ap.lo x (hm x hx)
/-- All that is there has room. -/
theorem RnOk.sum {W : Int} {a : RnA} (ok : RnOk W a) : ((thereL a.objs).map a.sz).sum ≤ W := by
  have h := ok.lad.sum
  rw [sum_perm a.sz a.row_perm] at h
  omega
/-- Two rows of places are the same when they are of the same places, in order. -/
theorem RnOk.row_uniq {W : Int} {a : RnA} (ok : RnOk W a) {l : List Int} (hp : l.Perm (thereL a.objs)) (hs : l.Pairwise fun x y => a.at_ x ≤ a.at_ y) : l = a.row := by
  refine List.Perm.eq_of_pairwise (le := fun x y => a.at_ x ≤ a.at_ y) (fun x y hx hy h1 h2 => ?_) hs a.row_sorted (hp.trans a.row_perm.symm)
  have hx := hp.mem_iff.1 hx
  have hy := a.row_perm.mem_iff.1 hy
  apply Classical.byContradiction
  intro hne
  have h3 := ok.ap.ap x hx y hy hne
  have h4 := a.sz_pos x
  have h5 := a.sz_pos y
  omega
/-! ### What can be come to. -/
theorem RnA.gs_get (a : RnA) (i : Nat) : fieldsI a.gs (i : Int) = (a.fld i).getD [] := by
  unfold fieldsI RnA.gs RnA.fld
  rw [Int.toNat_natCast, List.getD_eq_getElem?_getD, List.getElem?_map]
  cases a.objs[i]? <;> rfl
theorem RnA.gs_len (a : RnA) : a.gs.length = a.objs.length := List.length_map ..
theorem RnA.vok_rng {a : RnA} {v : Val} (h : a.vok v) : v.1 = true → 0 ≤ v.2 ∧ v.2 < (a.objs.length : Int) := fun h1 => by
  obtain ⟨i, fs, e, hf⟩ := h h1
  have := RnA.fld_lt hf
  omega
theorem RnOk.gv {W : Int} {a : RnA} (ok : RnOk W a) : (∀ fs ∈ a.gs, ValsOk a.gs.length fs) ∧ ValsOk a.gs.length a.regs := by
  rw [a.gs_len]
  refine ⟨fun fs hf v hv => ?_, fun v hv => RnA.vok_rng (ok.vr v hv)⟩
  obtain ⟨o, ho, rfl⟩ := List.mem_map.1 hf
  cases o with
  | none => cases hv
  | some fs =>
    obtain ⟨i, hi⟩ := List.mem_iff_getElem?.1 ho
    exact RnA.vok_rng (ok.vf i fs v (RnA.fld_iff.2 hi) hv)
theorem RnOk.lives_there {W : Int} {a : RnA} (ok : RnOk W a) : ∀ x ∈ a.lives, x ∈ thereL a.objs := by
  refine order_sub (S := fun x => x ∈ thereL a.objs) (fun y hy => ?_) (fun x hx y hy => ?_)
  · obtain ⟨i, fs, e, hf⟩ := ok.vr _ hy rfl
    exact RnA.there.2 ⟨i, fs, e, hf⟩
  · obtain ⟨i, fs, rfl, hf⟩ := RnA.there.1 hx
    rw [a.gs_get, hf] at hy
    obtain ⟨j, gs, e, hg⟩ := ok.vf i fs _ hf hy rfl
    exact RnA.there.2 ⟨j, gs, e, hg⟩
theorem RnOk.lives_nodup {W : Int} {a : RnA} (ok : RnOk W a) : a.lives.Nodup := (order_ok ok.gv.1 ok.gv.2).nodup
theorem RnA.drop_fld (a : RnA) (i : Nat) (fs : List Val) : a.drop.fld i = some fs ↔ a.fld i = some fs ∧ (i : Int) ∈ a.lives := by
  rw [RnA.fld_iff]
  show (dropF a.objs a.gone)[i]? = _ ↔ _
  have hg : ∀ x ∈ a.gone, 0 ≤ x := fun x hx => by
    obtain ⟨i, fs, e, _⟩ := RnA.there.1 (List.mem_filter.1 hx).1
    omega
  rw [dropF_get _ _ _ hg]
  have hm : (i : Int) ∈ a.gone ↔ (i : Int) ∈ thereL a.objs ∧ (i : Int) ∉ a.lives := by
    unfold RnA.gone
    rw [List.mem_filter]
    simp
  constructor
  · split
    · intro h; injection h with h; cases h
    · rename_i hc
      intro h
      refine ⟨RnA.fld_iff.2 h, ?_⟩
      have h1 := RnA.fld_lt (RnA.fld_iff.2 h)
      apply Classical.byContradiction
      exact fun hl => hc ⟨hm.2 ⟨RnA.there.2 ⟨i, fs, rfl, RnA.fld_iff.2 h⟩, hl⟩, h1⟩
  · rintro ⟨h1, h2⟩
    rw [if_neg (fun h => (hm.1 h.1).2 h2)]
    exact RnA.fld_iff.1 h1
theorem RnA.drop_len (a : RnA) : a.drop.objs.length = a.objs.length := dropF_len _ _
theorem RnA.drop_regs (a : RnA) : a.drop.regs = a.regs := rfl
theorem RnA.drop_ats (a : RnA) : a.drop.ats = a.ats := rfl
theorem RnA.drop_at (a : RnA) (x : Int) : a.drop.at_ x = a.at_ x := rfl
theorem RnOk.drop_there {W : Int} {a : RnA} (ok : RnOk W a) (x : Int) : x ∈ thereL a.drop.objs ↔ x ∈ a.lives := by
  rw [RnA.there]
  constructor
  · rintro ⟨i, fs, rfl, h⟩; exact ((a.drop_fld i fs).1 h).2
  · intro h
    obtain ⟨i, fs, rfl, hf⟩ := RnA.there.1 (ok.lives_there x h)
    exact ⟨i, fs, rfl, (a.drop_fld i fs).2 ⟨hf, h⟩⟩
theorem RnOk.drop_perm {W : Int} {a : RnA} (ok : RnOk W a) : (thereL a.drop.objs).Perm a.lives :=
  (List.perm_ext_iff_of_nodup (thereL_nodup _) ok.lives_nodup).2 ok.drop_there
theorem RnOk.drop_sz {W : Int} {a : RnA} (ok : RnOk W a) {x : Int} (h : x ∈ a.lives) : a.drop.sz x = a.sz x := by
  obtain ⟨i, fs, rfl, hf⟩ := RnA.there.1 (ok.lives_there x h)
  unfold RnA.sz
  rw [Int.toNat_natCast, (a.drop_fld i fs).2 ⟨hf, h⟩, hf]
theorem RnOk.live_vok {W : Int} {a : RnA} (ok : RnOk W a) {v : Val} (hv : a.vok v) (hl : v.1 = true → v.2 ∈ a.lives) : a.drop.vok v := fun h1 => by
  obtain ⟨i, fs, e, hf⟩ := hv h1
  exact ⟨i, fs, e, (a.drop_fld i fs).2 ⟨hf, by rw [← e]; exact hl h1⟩⟩
theorem RnOk.drop {W : Int} {a : RnA} (ok : RnOk W a) : RnOk W a.drop := by
  obtain ⟨c1, c2⟩ := order_closed ok.gv.1 ok.gv.2
  refine ⟨ok.w0, ok.r8, ?_, ?_, ?_, ?_, ?_⟩
  · rw [RnA.drop_len]; exact ok.cl
  · exact fun v hv => ok.live_vok (ok.vr v hv) (c2 v hv)
  · intro i fs v hf hv
    obtain ⟨h1, h2⟩ := (a.drop_fld i fs).1 hf
    refine ok.live_vok (ok.vf i fs v h1 hv) (c1 _ h2 v ?_)
    rw [a.gs_get, h1]; exact hv
  · exact fun i fs hf => ok.f4 i fs ((a.drop_fld i fs).1 hf).1
  · have hm : ∀ x, x ∈ thereL a.drop.objs → x ∈ a.lives := fun x hx => (ok.drop_there x).1 hx
    have hp := ok.ap.perm (m := thereL a.drop.objs) fun x hx => ok.lives_there x (hm x hx)
    refine ⟨hp.lo, fun x hx => ?_, fun x hx y hy => ?_⟩
    · rw [ok.drop_sz (hm x hx)]; exact hp.hi x hx
    · rw [ok.drop_sz (hm x hx), ok.drop_sz (hm y hy)]; exact hp.ap x hx y hy
/-- Objects stand one behind the other. -/
theorem RnOk.down {W : Int} {a : RnA} (ok : RnOk W a) {l : List Int} (hl : l.Perm (thereL a.objs)) : RnOk W { a with ats := downG a.sz l 0 a.ats } ∧ Pk (fun x => (downG a.sz l 0 a.ats).getD x.toNat 0) a.sz 0 l := by
  have hn : l.Nodup := hl.nodup_iff.2 (thereL_nodup _)
  have hr : ∀ x ∈ l, 0 ≤ x ∧ x < (a.ats.length : Int) := fun x hx => by
    obtain ⟨i, fs, rfl, hf⟩ := RnA.there.1 (hl.mem_iff.1 hx)
    have := RnA.fld_lt hf
    rw [ok.cl]; omega
  have hp := downG_pk a.sz l 0 a.ats hn hr
  have hs : 0 + (l.map a.sz).sum ≤ W := by rw [sum_perm a.sz hl]; have := ok.sum; omega
  have ha := (hp.lad hs).apart (fun x _ => a.sz_pos x) (Int.le_refl _)
  refine ⟨⟨ok.w0, ok.r8, ?_, ok.vr, ok.vf, ok.f4, ?_⟩, hp⟩
  · show (downG a.sz l 0 a.ats).length = _
    rw [downG_len]; exact ok.cl
  · exact ha.perm fun x hx => hl.mem_iff.2 hx
theorem RnOk.clear {W : Int} {a : RnA} (ok : RnOk W a) (c : Int) : RnOk W (a.clear c) := by
  unfold RnA.clear
  split
  · exact (ok.drop.down ok.drop_perm.symm).1
  · split
    · exact (ok.drop.down (a.drop.row_perm)).1
    · exact ok.drop
theorem RnA.clear_objs (a : RnA) (c : Int) : (a.clear c).objs = a.drop.objs ∧ (a.clear c).regs = a.regs := by
  unfold RnA.clear
  split
  · exact ⟨rfl, rfl⟩
  · split
    · exact ⟨rfl, rfl⟩
    · exact ⟨rfl, rfl⟩
/-- One more. -/
theorem RnA.push_fld (a : RnA) (n : Nat) (p : Int) (i : Nat) (fs : List Val) : (a.push n p).fld i = some fs ↔ a.fld i = some fs ∨ (i = a.objs.length ∧ fs = zeroVs n) := by
  rw [RnA.fld_iff, RnA.fld_iff]
  show (a.objs ++ [some (zeroVs n)])[i]? = _ ↔ _
  rw [List.getElem?_append]
  split
  · rename_i h
    constructor
    · exact fun h1 => .inl h1
    · rintro (h1 | ⟨h1, _⟩)
      · exact h1
      · omega
  · rename_i h
    constructor
    · intro h1
      have h2 : i - a.objs.length = 0 := by
        rcases Nat.eq_zero_or_pos (i - a.objs.length) with h3 | h3
        · exact h3
        · rw [List.getElem?_eq_none (by simp; omega)] at h1; cases h1
      rw [h2] at h1
      injection h1 with h1
      injection h1 with h1
      exact .inr ⟨by omega, h1.symm⟩
    · rintro (h1 | ⟨rfl, rfl⟩)
      · rw [List.getElem?_eq_none (by omega)] at h1; cases h1
      · simp
theorem RnOk.push {W : Int} {a : RnA} (ok : RnOk W a) {n : Nat} {c : Int} (h4 : n ≤ 4) (h : 0 ≤ a.room c W (1 + n)) : RnOk W (a.push n (a.room c W (1 + n))) ∧ (a.push n (a.room c W (1 + n))).vok (true, (a.objs.length : Int)) := by
  obtain ⟨r1, r2, r3⟩ := roomG_ok (sw := decide (c = 1)) (n := 1 + (n : Int)) (by omega) (fun x _ => a.sz_pos x) ok.lad (Int.le_refl _) h
  obtain ⟨p, hp⟩ : ∃ p, a.room c W (1 + n) = p := ⟨_, rfl⟩
  have hp' : roomG (decide (c = 1)) W (1 + n) a.at_ a.sz a.row 0 = p := hp
  rw [hp'] at r1 r2 r3
  rw [hp]
  have hfo : ∀ i fs, a.fld i = some fs → (a.push n p).fld i = some fs := fun i fs h => (a.push_fld n p i fs).2 (.inl h)
  have hvo : ∀ v, a.vok v → (a.push n p).vok v := fun v h h1 => by
    obtain ⟨i, fs, e, hf⟩ := h h1
    exact ⟨i, fs, e, hfo i fs hf⟩
  have hat : ∀ i fs, a.fld i = some fs → (a.push n p).at_ (i : Int) = a.at_ (i : Int) := fun i fs hf => by
    have h1 := RnA.fld_lt hf
    show (a.ats ++ [p]).getD _ 0 = a.ats.getD _ 0
    rw [Int.toNat_natCast, List.getD_eq_getElem?_getD, List.getD_eq_getElem?_getD, List.getElem?_append_left (by rw [ok.cl]; exact h1)]
  have hsz : ∀ i fs, a.fld i = some fs → (a.push n p).sz (i : Int) = a.sz (i : Int) := fun i fs hf => by
    unfold RnA.sz
    rw [Int.toNat_natCast, hfo i fs hf, hf]
  have hnew : (a.push n p).fld a.objs.length = some (zeroVs n) := (a.push_fld n p _ _).2 (.inr ⟨rfl, rfl⟩)
  have hat2 : (a.push n p).at_ (a.objs.length : Int) = p := by
    show (a.ats ++ [p]).getD _ 0 = p
    rw [Int.toNat_natCast, List.getD_eq_getElem?_getD, ← ok.cl]
    simp
  have hsz2 : (a.push n p).sz (a.objs.length : Int) = 1 + n := by
    unfold RnA.sz
    rw [Int.toNat_natCast, hnew]
    simp [zeroVs]
  have hth : ∀ x, x ∈ thereL (a.push n p).objs → (x ∈ a.row ∧ (a.push n p).at_ x = a.at_ x ∧ (a.push n p).sz x = a.sz x) ∨ (x = (a.objs.length : Int) ∧ (a.push n p).at_ x = p ∧ (a.push n p).sz x = 1 + n) := fun x hx => by
    obtain ⟨i, fs, rfl, hf⟩ := RnA.there.1 hx
    rcases (a.push_fld n p i fs).1 hf with h1 | ⟨rfl, _⟩
    · exact .inl ⟨a.row_perm.mem_iff.2 (RnA.there.2 ⟨i, fs, rfl, h1⟩), hat i fs h1, hsz i fs h1⟩
    · exact .inr ⟨rfl, hat2, hsz2⟩
  refine ⟨⟨ok.w0, ok.r8, ?_, fun v hv => hvo v (ok.vr v hv), ?_, ?_, ⟨?_, ?_, ?_⟩⟩, fun _ => ⟨_, _, rfl, hnew⟩⟩
  · show (a.ats ++ [p]).length = (a.objs ++ [_]).length
    simp [ok.cl]
  · intro i fs v hf hv
    rcases (a.push_fld n p i fs).1 hf with h1 | ⟨_, rfl⟩
    · exact hvo v (ok.vf i fs v h1 hv)
    · intro h1
      obtain ⟨_, rfl⟩ := List.mem_replicate.1 hv
      cases h1
  · intro i fs hf
    rcases (a.push_fld n p i fs).1 hf with h1 | ⟨_, rfl⟩
    · exact ok.f4 i fs h1
    · simp [zeroVs]; exact h4
  · intro x hx
    rcases hth x hx with ⟨h1, e1, e2⟩ | ⟨_, e1, e2⟩
    · rw [e1]; exact ok.ap.lo x (a.row_perm.mem_iff.1 h1)
    · rw [e1]; exact r1
  · intro x hx
    rcases hth x hx with ⟨h1, e1, e2⟩ | ⟨_, e1, e2⟩
    · rw [e1, e2]; exact ok.ap.hi x (a.row_perm.mem_iff.1 h1)
    · rw [e1, e2]; exact r2
  · intro x hx y hy hne
    rcases hth x hx with ⟨h1, e1, e2⟩ | ⟨g1, e1, e2⟩
    · rcases hth y hy with ⟨h3, e3, e4⟩ | ⟨_, e3, e4⟩
      · rw [e1, e2, e3, e4]; exact ok.ap.ap x (a.row_perm.mem_iff.1 h1) y (a.row_perm.mem_iff.1 h3) hne
      · rw [e1, e2, e3, e4]; have := r3 x h1; omega
    · rcases hth y hy with ⟨h3, e3, e4⟩ | ⟨g3, e3, e4⟩
      · rw [e1, e2, e3, e4]; have := r3 y h3; omega
      · exact absurd (g1.trans g3.symm) hne
theorem RnA.clear_len (a : RnA) (c : Int) : (a.clear c).objs.length = a.objs.length := by rw [(a.clear_objs c).1, a.drop_len]
theorem RnOk.new_ {W : Int} {a : RnA} (ok : RnOk W a) (c : Int) {n : Nat} (h4 : n ≤ 4) : RnOk W (rnNew c W a n).1 ∧ ((rnNew c W a n).2.2 = 0 → (rnNew c W a n).1.vok (true, (rnNew c W a n).2.1)) := by
  unfold rnNew
  split
  · rename_i h
    exact ⟨(ok.push h4 h).1, fun _ => (ok.push h4 h).2⟩
  · split
    · rename_i h
      have h1 := (ok.clear c).push h4 h
      rw [RnA.clear_len] at h1
      exact ⟨h1.1, fun _ => h1.2⟩
    · exact ⟨ok.clear c, fun h => by cases h⟩
end Go.Proofs.Ytjphckfbbiehdaa

namespace Go.Proofs.Ytjphckfbbiehdaa
open Go.RowKit Go.Maps

structure RnT where
  regs : List Val
  oj : Oj
  b : Nat
  ats : List Int
  times : Int
def RnT.a (t : RnT) : RnA := ⟨t.regs, t.oj.abs, t.ats, t.times⟩
def rnC (Bm : Nat) (c W : Int) (t : RnT) : Array Value := #[t.oj.v, .pointer (some ⟨Bm, 0, none⟩), .map (some t.b), .int .i64 c, .int .i64 W, .int .i64 t.times]
def rnR (Be Bm : Nat) (c W : Int) (t : RnT) : List Item := blkI Be 104 (rnC Bm c W t) :: atI t.b t.oj.ps.length (thereL t.oj.abs) t.a.at_ :: ojL t.oj
def rnM (Be Bm : Nat) (t : RnT) : Item := blkI Bm 113 (mcCells t.regs (.iface 98 (.pointer (some ⟨Be, 0, none⟩))))
def rnK (Be Bm : Nat) (c W : Int) (t : RnT) : List Item := rnM Be Bm t :: rnR Be Bm c W t
theorem thereL_abs' (s : Oj) : thereL s.abs = thereL s.ps := by
  have hl : s.abs.length = s.ps.length := List.length_map ..
  unfold thereL thereK
  rw [hl]
  congr 1
  refine List.filter_congr fun i hi => ?_
  unfold Oj.abs
  rw [List.getD_eq_getElem?_getD, List.getD_eq_getElem?_getD, List.getElem?_map]
  cases s.ps[i]? with
  | none => rfl
  | some o => cases o <;> rfl
theorem rn_cells {F : Nat → Prop} {W0 w : World} {Be Bm : Nat} {c W : Int} {t : RnT} {pre : List Item} (hS : Sep F W0 w (pre ++ rnK Be Bm c W t)) :
    w.cell? ⟨Be, 0, none⟩ = some t.oj.v ∧ w.cell? ⟨Be, 1, none⟩ = some (.pointer (some ⟨Bm, 0, none⟩)) ∧ w.cell? ⟨Be, 2, none⟩ = some (.map (some t.b)) ∧ w.cell? ⟨Be, 3, none⟩ = some (.int .i64 c) ∧ w.cell? ⟨Be, 4, none⟩ = some (.int .i64 W) ∧ w.cell? ⟨Be, 5, none⟩ = some (.int .i64 t.times) ∧ (∀ i, w.frozen? ⟨Be, i, none⟩ = false) ∧ Be < w.heap.size := by
  obtain ⟨c1, c2, c3, _⟩ := hS.rules (pre.length + 1) (g := Be) (t := 104) (cs := rnC Bm c W t) (by rw [List.getElem?_append_right (by omega)]; simp [rnK, rnR])
  exact ⟨(c1 0).trans rfl, (c1 1).trans rfl, (c1 2).trans rfl, (c1 3).trans rfl, (c1 4).trans rfl, (c1 5).trans rfl, c2, c3⟩
theorem rn_at {F : Nat → Prop} {W0 w : World} {Be Bm : Nat} {c W : Int} {t : RnT} {pre : List Item} (hS : Sep F W0 w (pre ++ rnK Be Bm c W t)) : (atI t.b t.oj.ps.length (thereL t.oj.abs) t.a.at_).P w :=
  hS.get (pre.length + 2) (by rw [List.getElem?_append_right (by omega)]; simp [rnK, rnR])
theorem rn_there {t : RnT} {x : Int} (h : x ∈ thereL t.oj.abs) : ∃ (i : Nat) (p : Po), x = (i : Int) ∧ t.oj.ps[i]? = some (some p) ∧ t.a.sz x = 1 + (p.o.fields.length : Int) := by
  obtain ⟨i, fs, rfl, h1⟩ := (mem_thereL _ _).1 h
  unfold Oj.abs at h1
  rw [List.getElem?_map] at h1
  cases h2 : t.oj.ps[i]? with
  | none => rw [h2] at h1; cases h1
  | some o =>
    rw [h2] at h1
    cases o with
    | none => cases h1
    | some p =>
      have h3 : p.o.fields = fs := by simpa using h1
      refine ⟨i, p, rfl, h2, ?_⟩
      unfold RnA.sz
      have h4 : t.a.fld i = some fs := by
        rw [RnA.fld_iff]
        show t.oj.abs[i]? = _
        unfold Oj.abs
        rw [List.getElem?_map, h2, ← h3]
        rfl
      rw [Int.toNat_natCast, h4, h3]
      rfl

set_option maxRecDepth 100000 in
set_option maxHeartbeats 4000000 in
theorem rsize_any {s : Oj} {F : Nat → Prop} {W0 w : World} {pre : List Item} (h : Sep F W0 w (pre ++ ojL s)) (hn : s.ps.length ≤ 1000) {i Be : Nat} {p : Po} (hi : s.ps[i]? = some (some p)) (h4 : p.o.fields.length ≤ 4) (hc : w.cell? ⟨Be, 0, none⟩ = some s.v) :
    Calls Try.prog 158 #[.pointer (some ⟨Be, 0, none⟩), .int .i64 i] w fun e w' => e = .returned (.int .i64 (1 + (p.o.fields.length : Int))) ∧ w' = w := by
  obtain ⟨ad, hA, had, e0, e1, _⟩ := oj_at h hi
  have hfl := oj_len h hi
  have hil := (List.getElem?_eq_some_iff.1 hi).1
  rw [hfl] at h4 ⊢
  unfold Oj.v at hc
  obtain ⟨n, hn2⟩ : ∃ n, s.ps.length = n := ⟨_, rfl⟩
  obtain ⟨m, hm⟩ : ∃ n, p.o.n = n := ⟨_, rfl⟩
  rw [hn2] at hil hn hc
  rw [hm] at h4 e1 ⊢
  rw [hA] at hc
  clear hn2 h hi hfl hm
  go_enter Try.func158, Try.ntmps158
  go_wp2_with fail
  have hw : IntKind.i64.wrap (1 + (m : Int)) = 1 + (m : Int) := by simp [IntKind.wrap, IntKind.bits, IntKind.signed]; omega
  go_ret
  exact ⟨by first | rfl | (simp [hw]; done) | (rw [hw]; done), rfl⟩

end Go.Proofs.Ytjphckfbbiehdaa

namespace Go.Proofs.Ytjphckfbbiehdaa
open Go.Shelf
def shelf_laysSlF6_f159_ren : Go.Shelf.Ren := ⟨fun | 6 => 159 | 15 => 149 | 14 => 193 | 28 => 189 | 29 => 190 | 20 => 213 | 21 => 214 | 22 => 215 | 23 => 216 | 24 => 217 | 25 => 218 | 26 => 219 | 27 => 220 | 46 => 237 | 47 => 208 | 48 => 209 | 49 => 238 | 50 => 239 | 57 => 244 | n => n, fun | 22 => 35 | 24 => 3 | 25 => 138 | 3 => 3 | 39 => 258 | 0 => 0 | 53 => 284 | 55 => 287 | 4 => 4 | 46 => 292 | 45 => 291 | 50 => 42 | 5 => 5 | 9 => 9 | 66 => 308 | 70 => 312 | 76 => 329 | 77 => 136 | n => n, fun | n => n⟩
theorem shelf_laysSlF6_f159 : Go.Proofs.SlLaysF.n6 Try.prog shelf_laysSlF6_f159_ren := {
  mixed := by kernel_rfl
  f6 := ⟨Try.f159.name, by decide, Try.func159.trans (congrArg some (by kernel_rfl))⟩
  f14 := ⟨Try.f193.name, by decide, Try.func193.trans (congrArg some (by kernel_rfl))⟩
  f15 := Try.func149.trans (congrArg some (by kernel_rfl))
  f20 := ⟨Try.f213.name, by decide, Try.func213.trans (congrArg some (by kernel_rfl))⟩
  f21 := ⟨Try.f214.name, by decide, Try.func214.trans (congrArg some (by kernel_rfl))⟩
  f22 := ⟨Try.f215.name, by decide, Try.func215.trans (congrArg some (by kernel_rfl))⟩
  f23 := ⟨Try.f216.name, by decide, Try.func216.trans (congrArg some (by kernel_rfl))⟩
  f24 := ⟨Try.f217.name, by decide, Try.func217.trans (congrArg some (by kernel_rfl))⟩
  f25 := ⟨Try.f218.name, by decide, Try.func218.trans (congrArg some (by kernel_rfl))⟩
  f26 := ⟨Try.f219.name, by decide, Try.func219.trans (congrArg some (by kernel_rfl))⟩
  f27 := ⟨Try.f220.name, by decide, Try.func220.trans (congrArg some (by kernel_rfl))⟩
  f28 := Try.func189.trans (congrArg some (by kernel_rfl))
  f29 := Try.func190.trans (congrArg some (by kernel_rfl))
  f46 := ⟨Try.f237.name, by decide, Try.func237.trans (congrArg some (by kernel_rfl))⟩
  f47 := Try.func208.trans (congrArg some (by kernel_rfl))
  f48 := Try.func209.trans (congrArg some (by kernel_rfl))
  f49 := ⟨Try.f238.name, by decide, Try.func238.trans (congrArg some (by kernel_rfl))⟩
  f50 := ⟨Try.f239.name, by decide, Try.func239.trans (congrArg some (by kernel_rfl))⟩
  f57 := ⟨Try.f244.name, by decide, Try.func244.trans (congrArg some (by kernel_rfl))⟩
  t0 := Try.underlying0
  a0 := Try.isAgg0
  z0 := Try.sizeOf0
  v0 := Try.zeroValue0
  t3 := Try.underlying3
  a3 := Try.isAgg3
  z3 := Try.sizeOf3
  v3 := Try.zeroValue3
  t4 := Try.underlying4
  a4 := Try.isAgg4
  z4 := Try.sizeOf4
  v4 := Try.zeroValue4
  t5 := Try.underlying5
  a5 := Try.isAgg5
  z5 := Try.sizeOf5
  v5 := Try.zeroValue5
  t9 := Try.underlying9
  a9 := Try.isAgg9
  z9 := Try.sizeOf9
  v9 := Try.zeroValue9
  t22 := Try.underlying35
  a22 := Try.isAgg35
  z22 := Try.sizeOf35
  v22 := Try.zeroValue35
  a24 := Try.isAgg3
  z24 := Try.sizeOf3
  t25 := Try.underlying138
  a25 := Try.isAgg138
  z25 := Try.sizeOf138
  v25 := Try.zeroValue138
  t39 := Try.underlying258
  a39 := Try.isAgg258
  z39 := Try.sizeOf258
  v39 := Try.zeroValue258
  t45 := Try.underlying291
  a45 := Try.isAgg291
  z45 := Try.sizeOf291
  v45 := Try.zeroValue291
  t46 := Try.underlying292
  a46 := Try.isAgg292
  z46 := Try.sizeOf292
  v46 := Try.zeroValue292
  t50 := Try.underlying42
  a50 := Try.isAgg42
  z50 := Try.sizeOf42
  v50 := Try.zeroValue42
  t53 := Try.underlying284
  a53 := Try.isAgg284
  z53 := Try.sizeOf284
  v53 := Try.zeroValue284
  t55 := Try.underlying287
  a55 := Try.isAgg287
  z55 := Try.sizeOf287
  v55 := Try.zeroValue287
  t66 := Try.underlying308
  a66 := Try.isAgg308
  z66 := Try.sizeOf308
  v66 := Try.zeroValue308
  t70 := Try.underlying312
  a70 := Try.isAgg312
  z70 := Try.sizeOf312
  v70 := Try.zeroValue312
  t76 := Try.underlying329
  a76 := Try.isAgg329
  z76 := Try.sizeOf329
  v76 := Try.zeroValue329
  t77 := Try.underlying136
  a77 := Try.isAgg136
  z77 := Try.sizeOf136
  v77 := Try.zeroValue136 }
open Go.RowKit Go.Lib Go.Sort in
theorem shelf_slices_SortFunc_eq {α : Type} [Inhabited α] (enc : α → Value) (h1 : OneCell enc) (cf : α → α → Int) (hO : SWO (ltOf cf)) (g : Nat) (cb : Array Value) (blk off cap : Nat) (d : Array α) (w : World) (eg : ∀ args w, (callFunc g args).run Try.prog w = .ok (.enter g args) w) (hcmp : CmpLays1 Try.prog g cb enc cf blk off d.size w) (hH : Holds enc w blk off d) (hblk : blk < w.heap.size) (hsz : d.size < 4611686018427387904) :
    Calls Try.prog 159 #[.slice (some ⟨blk, off, none⟩) d.size cap, .func (.func g) #[] cb] w fun e w' =>
      e = .returned (.tuple #[]) ∧ ∃ n os, w' = sortWorld enc w blk off n (pdq (ltOf cf) d 0 d.size (Lib.bitLen d.size) true true) os := Any.slices_SortFunc_eq shelf_laysSlF6_f159 enc h1 cf hO g cb blk off cap d w eg hcmp hH hblk hsz
open Go.RowKit Go.Lib Go.Sort in
theorem shelf_slices_SortFunc {α : Type} [Inhabited α] (enc : α → Value) (h1 : OneCell enc) (cf : α → α → Int) (hO : SWO (ltOf cf)) (g : Nat) (cb : Array Value) (blk off cap : Nat) (d : Array α) (w : World) (eg : ∀ args w, (callFunc g args).run Try.prog w = .ok (.enter g args) w) (hcmp : CmpLays1 Try.prog g cb enc cf blk off d.size w) (hH : Holds enc w blk off d) (hblk : blk < w.heap.size) (hsz : d.size < 4611686018427387904) :
    Calls Try.prog 159 #[.slice (some ⟨blk, off, none⟩) d.size cap, .func (.func g) #[] cb] w fun e w' =>
      e = .returned (.tuple #[]) ∧ ∃ d' n os, PermIn 0 d.size d d' ∧ SortedIn (ltOf cf) 0 d.size d' ∧ w' = sortWorld enc w blk off n d' os := Any.slices_SortFunc shelf_laysSlF6_f159 enc h1 cf hO g cb blk off cap d w eg hcmp hH hblk hsz
end Go.Proofs.Ytjphckfbbiehdaa
