/- A machine, plain: what is done. What a call has of its own: a slice cut, cleared; two cells stored at once. The reference's memory: what it has; a register's place, an object's, a field's; what a store turns. -/
import Derived.Test.YtjphckfbbiehdaaGIdealPlays5
import Derived.Test.YtjphckfbbiehdaaGIdealPlays0
import Derived.StillTailTactics
set_option linter.unusedSimpArgs false
set_option linter.unusedVariables false
namespace Go.Proofs.Ytjphckfbbiehdaa

structure MSt where
  regs : List Val
  objs : List (List Val)
structure OutV where
  code : Int
  rf : Bool
  n : Int
def OutV.val (o : OutV) : Value := .agg #[.int .i64 o.code, .bool o.rf, .int .i64 o.n]
def rgA (l : List Val) (r : Int) : Val := l.getD r.toNat (false, 0)
def obA (l : List (List Val)) (x : Int) : List Val := l.getD x.toNat []
def fErr (objs : List (List Val)) (v : Val) (at_ : Int) : Int := if v.1 = false then 5 else if at_ < 0 ∨ ((obA objs v.2).length : Int) ≤ at_ then 3 else 0
def stepK (d : DoV) (σ : MSt) : OutV × MSt :=
  if d.k = 1 then (⟨0, false, 0⟩, ⟨σ.regs.set d.to.toNat (true, σ.objs.length), σ.objs ++ [zeroVs d.n.toNat]⟩)
  else if d.k = 2 then (⟨0, false, 0⟩, ⟨σ.regs.set d.to.toNat (false, d.n), σ.objs⟩)
  else if d.k = 3 then (⟨0, false, 0⟩, ⟨σ.regs.set d.to.toNat (rgA σ.regs d.fr), σ.objs⟩)
  else if d.k = 4 then
    if fErr σ.objs (rgA σ.regs d.to) d.at_ ≠ 0 then (⟨fErr σ.objs (rgA σ.regs d.to) d.at_, false, 0⟩, σ)
    else (⟨0, false, 0⟩, ⟨σ.regs, σ.objs.set (rgA σ.regs d.to).2.toNat ((obA σ.objs (rgA σ.regs d.to).2).set d.at_.toNat (rgA σ.regs d.fr))⟩)
  else if d.k = 5 then
    if fErr σ.objs (rgA σ.regs d.fr) d.at_ ≠ 0 then (⟨fErr σ.objs (rgA σ.regs d.fr) d.at_, false, 0⟩, σ)
    else (⟨0, false, 0⟩, ⟨σ.regs.set d.to.toNat ((obA σ.objs (rgA σ.regs d.fr).2).getD d.at_.toNat (false, 0)), σ.objs⟩)
  else if d.k = 6 then (⟨0, false, if rgA σ.regs d.to = rgA σ.regs d.fr then 1 else 0⟩, σ)
  else (⟨0, (rgA σ.regs d.fr).1, if (rgA σ.regs d.fr).1 = true then (obA σ.objs (rgA σ.regs d.fr).2).length else (rgA σ.regs d.fr).2⟩, σ)
def stepM (d : DoV) (σ : MSt) : OutV × MSt := if wrongM d ≠ 0 then (⟨wrongM d, false, 0⟩, σ) else stepK d σ
/-- What a machine's state may be. -/
structure MOk (σ : MSt) : Prop where
  r8 : σ.regs.length = 8
  vr : ValsOk σ.objs.length σ.regs
  vo : ∀ fs ∈ σ.objs, ValsOk σ.objs.length fs
  f4 : ∀ fs ∈ σ.objs, fs.length ≤ 4
theorem valsOk_mono {n m : Nat} {l : List Val} (h : ValsOk n l) (hm : n ≤ m) : ValsOk m l := fun v hv h1 => by have h2 := h v hv h1; exact ⟨h2.1, by have := h2.2; omega⟩
theorem zeroVs_ok (n m : Nat) : ValsOk n (zeroVs m) := fun v hv h1 => by
  obtain ⟨_, rfl⟩ := List.mem_replicate.1 hv
  cases h1
theorem mem_set_ {α : Type} {l : List α} {i : Nat} {a b : α} (h : b ∈ l.set i a) : b ∈ l ∨ b = a := by
  rcases List.mem_or_eq_of_mem_set h with h | h
  · exact .inl h
  · exact .inr h
theorem valsOk_set {n : Nat} {l : List Val} (h : ValsOk n l) (i : Nat) {v : Val} (hv : v.1 = true → 0 ≤ v.2 ∧ v.2 < (n : Int)) : ValsOk n (l.set i v) := fun u hu h1 => by
  rcases mem_set_ hu with h2 | rfl
  · exact h u h2 h1
  · exact hv h1
theorem getD_mem_or {α : Type} (l : List α) (i : Nat) (d : α) : l.getD i d ∈ l ∨ l.getD i d = d := by
  rw [List.getD_eq_getElem?_getD]
  cases h : l[i]? with
  | none => right; rfl
  | some a => left; exact List.mem_of_getElem? h
theorem valsOk_getD {n : Nat} {l : List Val} (h : ValsOk n l) (i : Nat) : (l.getD i (false, 0)).1 = true → 0 ≤ (l.getD i (false, 0)).2 ∧ (l.getD i (false, 0)).2 < (n : Int) := fun h1 => by
  rcases getD_mem_or l i (false, 0) with h2 | h2
  · exact h _ h2 h1
  · rw [h2] at h1; cases h1
theorem MOk.ob {σ : MSt} (h : MOk σ) (x : Int) : ValsOk σ.objs.length (obA σ.objs x) ∧ (obA σ.objs x).length ≤ 4 := by
  unfold obA
  rcases getD_mem_or σ.objs x.toNat [] with h2 | h2
  · exact ⟨h.vo _ h2, h.f4 _ h2⟩
  · rw [h2]; exact ⟨fun v hv => (by cases hv), by simp⟩
theorem MOk.step {σ : MSt} (h : MOk σ) (d : DoV) : MOk (stepM d σ).2 ∧ σ.objs.length ≤ (stepM d σ).2.objs.length ∧ (stepM d σ).2.objs.length ≤ σ.objs.length + 1 := by
  unfold stepM
  by_cases hw : wrongM d ≠ 0
  · rw [if_pos hw]; exact ⟨h, Nat.le_refl _, Nat.le_succ _⟩
  rw [if_neg hw]
  unfold stepK
  have hr := fun r => valsOk_getD h.vr r
  have hwn : d.k = 1 → d.n ≤ 4 := fun hk => by
    have hw2 : wrongM d = 0 := by omega
    unfold wrongM at hw2
    rw [if_neg (by omega)] at hw2
    split at hw2
    · omega
    · split at hw2
      · omega
      · rename_i h3
        omega
  split
  · rename_i hk
    refine ⟨⟨by simp [h.r8], ?_, ?_, ?_⟩, by simp, by simp⟩
    · dsimp only
      rw [List.length_append, List.length_singleton]
      exact valsOk_set (valsOk_mono h.vr (by omega)) _ (fun _ => by dsimp only; omega)
    · dsimp only
      rw [List.length_append, List.length_singleton]
      intro fs hfs
      rcases List.mem_append.1 hfs with h1 | h1
      · exact valsOk_mono (h.vo fs h1) (by omega)
      · rw [List.mem_singleton.1 h1]; exact zeroVs_ok _ _
    · intro fs hfs
      rcases List.mem_append.1 hfs with h1 | h1
      · exact h.f4 fs h1
      · rw [List.mem_singleton.1 h1]
        have := hwn hk
        simp [zeroVs]; omega
  split
  · exact ⟨⟨by simp [h.r8], valsOk_set h.vr _ (fun h => by cases h), h.vo, h.f4⟩, Nat.le_refl _, Nat.le_succ _⟩
  split
  · exact ⟨⟨by simp [h.r8], valsOk_set h.vr _ (hr _), h.vo, h.f4⟩, Nat.le_refl _, Nat.le_succ _⟩
  split
  · split
    · exact ⟨h, Nat.le_refl _, Nat.le_succ _⟩
    · refine ⟨⟨h.r8, by simpa using h.vr, ?_, ?_⟩, by simp, by simp⟩
      · intro fs hfs
        rw [List.length_set]
        rcases mem_set_ hfs with h1 | rfl
        · exact h.vo fs h1
        · exact valsOk_set (h.ob _).1 _ (hr _)
      · intro fs hfs
        rcases mem_set_ hfs with h1 | rfl
        · exact h.f4 fs h1
        · rw [List.length_set]; exact (h.ob _).2
  split
  · split
    · exact ⟨h, Nat.le_refl _, Nat.le_succ _⟩
    · exact ⟨⟨by simp [h.r8], valsOk_set h.vr _ (valsOk_getD (h.ob _).1 _), h.vo, h.f4⟩, Nat.le_refl _, Nat.le_succ _⟩
  split
  · exact ⟨h, Nat.le_refl _, Nat.le_succ _⟩
  · exact ⟨h, Nat.le_refl _, Nat.le_succ _⟩
theorem wrongM_rng {d : DoV} (h : wrongM d = 0) : 1 ≤ d.k ∧ d.k ≤ 7 := by
  unfold wrongM at h
  split at h
  · omega
  · omega
theorem wrongM_to {d : DoV} (h : wrongM d = 0) (hk : d.k ≠ 7) : 0 ≤ d.to ∧ d.to < 8 := by
  refine badR_no ?_
  unfold wrongM at h
  split at h
  · omega
  · split at h
    · omega
    · rename_i h2
      cases hb : badR d.to
      · rfl
      · exact absurd (.inl ⟨hk, hb⟩) h2
theorem wrongM_fr {d : DoV} (h : wrongM d = 0) (hk : d.k ≠ 1) (hk2 : d.k ≠ 2) : 0 ≤ d.fr ∧ d.fr < 8 := by
  refine badR_no ?_
  unfold wrongM at h
  split at h
  · omega
  · split at h
    · omega
    · rename_i h2
      cases hb : badR d.fr
      · rfl
      · exact absurd (.inr ⟨hk, hk2, hb⟩) h2
theorem wrongM_n {d : DoV} (h : wrongM d = 0) (hk : d.k = 1) : 0 ≤ d.n ∧ d.n ≤ 4 := by
  unfold wrongM at h
  split at h
  · omega
  · split at h
    · omega
    · split at h
      · omega
      · rename_i h3; omega
end Go.Proofs.Ytjphckfbbiehdaa

namespace Go.Proofs.Ytjphckfbbiehdaa
open Go.RowKit

theorem addr0 (g j : Nat) : (⟨g, 0, none⟩ : Addr).add j = ⟨g, j, none⟩ := by
  unfold Addr.add; split <;> simp_all

theorem ownsRow_cut {w : World} {base e size n c q : Nat} {A : Option Addr} {xs : List Value} (h : w.ownsRow base e size (.slice A n c) n xs) (hq : q ≤ n) : w.ownsRow base e size (.slice A q c) q (xs.take (q * size)) := by
  obtain ⟨h1, h2⟩ := h
  have hm : q * size ≤ n * size := Nat.mul_le_mul_right _ hq
  refine ⟨by rw [List.length_take, h1]; omega, ?_⟩
  rcases h2 with ⟨h0, h00⟩ | ⟨g', cap', cur, hv, hg, hh, hn, hcap, hsz, htake⟩
  · injection h0 with e1 e2 e3
    subst e1 e2 e3
    obtain rfl : q = 0 := by omega
    exact .inl ⟨rfl, rfl⟩
  · injection hv with e1 e2 e3
    subst e1 e3
    refine .inr ⟨g', c, cur, rfl, hg, hh, by omega, hcap, hsz, ?_⟩
    rw [← htake, List.take_take, Nat.min_eq_left hm]

section
variable {F : Nat → Prop} {W w : World} {items : List Item}
theorem Sep.cutRow (h : Sep F W w items) (k : Nat) {e size n c q : Nat} {A : Option Addr} {xs : List Value} (hk : items[k]? = some (rowI e size A n c xs)) (hq : q ≤ n) :
    Sep F W w (items.set k (rowI e size A q c (xs.take (q * size)))) :=
  h.step k hk (Chg.refl _ w) _ (ownsRow_cut (h.get k hk) hq) (fun g hg => .inl (by cases A with
    | none => simp [rowI, Value.ownBlock] at hg
    | some a => simpa [rowI, Value.ownBlock] using hg))
theorem sep_setCells {F : Nat → Prop} {W : World} (k : Nat) {e size n c g : Nat} : ∀ (vs : List Value) (o : Nat) (xs : List Value) (w : World) (items : List Item), Sep F W w items → items[k]? = some (rowI e size (some ⟨g, 0, none⟩) n c xs) →
    ∃ xs', Sep F W (w.setCells g o vs) (items.set k (rowI e size (some ⟨g, 0, none⟩) n c xs')) ∧ xs'.take o = xs.take o
  | [], o, xs, w, items, h, hk => ⟨xs, by
      have hkl := (List.getElem?_eq_some_iff.1 hk)
      obtain ⟨hkl, he⟩ := hkl
      rw [show items.set k (rowI e size (some ⟨g, 0, none⟩) n c xs) = items by rw [← he]; exact List.set_getElem_self hkl]
      exact h, rfl⟩
  | v :: r, o, xs, w, items, h, hk => by
    have h1 := h.store k hk o v
    have hkl := (List.getElem?_eq_some_iff.1 hk).1
    obtain ⟨xs', h2, h3⟩ := sep_setCells k (e := e) (size := size) (n := n) (c := c) (g := g) r (o + 1) (xs.set o v) _ _ h1 (by simp [hkl])
    refine ⟨xs', by rw [List.set_set] at h2; exact h2, ?_⟩
    have h4 := congrArg (List.take o) h3
    rw [List.take_take, List.take_take, Nat.min_eq_left (by omega), List.take_set_of_le (by omega)] at h4
    exact h4
/-- The tail is cleared, and the slice cut ahead of it. -/
theorem Sep.clearCut (h : Sep F W w items) (k : Nat) {e size n c g q : Nat} {xs : List Value} (hk : items[k]? = some (rowI e size (some ⟨g, 0, none⟩) n c xs)) (hq : q ≤ n) (vs : List Value) :
    Sep F W (w.setCells g (q * size) vs) (items.set k (rowI e size (some ⟨g, 0, none⟩) q c (xs.take (q * size)))) := by
  obtain ⟨xs', h1, h2⟩ := sep_setCells k vs (q * size) xs w items h hk
  have hkl := (List.getElem?_eq_some_iff.1 hk).1
  have h3 := h1.cutRow k (q := q) (by simp [hkl]; rfl) hq
  rw [h2] at h3
  simpa using h3
/-- A store of a struct of two cells into a slice of the call's own. -/
theorem Sep.store2 (h : Sep F W w items) (k : Nat) {e size n c g : Nat} {xs : List Value} (hk : items[k]? = some (rowI e size (some ⟨g, 0, none⟩) n c xs)) (j : Nat) (u v : Value) :
    Sep F W ((w.setCell ⟨g, j, none⟩ u).setCell ⟨g, j + 1, none⟩ v) (items.set k (rowI e size (some ⟨g, 0, none⟩) n c ((xs.set j u).set (j + 1) v))) := by
  have hkl := (List.getElem?_eq_some_iff.1 hk).1
  have h1 := (h.store k hk j u).store k (xs := xs.set j u) (by simp [hkl]; rfl) (j + 1) v
  simpa using h1
end

/-- 'clear(s)' of a slice of whatever elements. -/
theorem run_clear_all {P : Program} (w : World) (t e ty : TypeId) (z : Value) (ht : P.underlying t = some (.slice e)) (hv : ∀ w, (zeroValue e).run P w = .ok z w) (b o n c : Nat) (hn : 0 < n)
    (hc : ∀ j, j < n * z.cells.size → (w.cell? ⟨b, o + j, none⟩).isSome = true) (hf : ∀ j, j < n * z.cells.size → w.frozen? ⟨b, o + j, none⟩ = false) (h1 : ∀ v ∈ (Builtin.zeroCells z.cells n).toList, v.oneCell' = true) :
    (Builtin.clear_ #[t] ty #[.slice (some ⟨b, o, none⟩) n c]).run P w = .ok (.tuple #[]) (w.setCells b o (Builtin.zeroCells z.cells n).toList) := by
  have hl : (Builtin.zeroCells z.cells n).toList.length = n * z.cells.size := by simp [Builtin.zeroCells]
  have hst := run_storeCells_cells (P := P) b o (Builtin.zeroCells z.cells n).toList 0 w (by rw [hl]; simpa using hc) (by rw [hl]; simpa using hf) h1
  simp only [Nat.add_zero] at hst
  obtain ⟨m, rfl⟩ : ∃ m, n = m + 1 := ⟨n - 1, by omega⟩
  simp [Builtin.clear_, run_underlying ht, hv, hst]
end Go.Proofs.Ytjphckfbbiehdaa

namespace Go.Proofs.Ytjphckfbbiehdaa
open Go.RowKit

structure RMem where
  gr : Nat
  cR : Nat
  regs : List Val
  Ao : Option Addr
  co : Nat
  obs : List Ob
  Ag : Option Addr
  cg : Nat
  gone : List Bool
def bools (l : List Bool) : List Value := l.map Value.bool
def rmL (Bm : Nat) (s : RMem) : List Item :=
  blkI Bm 176 #[.slice (some ⟨s.gr, 0, none⟩) s.regs.length s.cR, .slice s.Ao s.obs.length s.co, .slice s.Ag s.gone.length s.cg] :: rowI 107 2 (some ⟨s.gr, 0, none⟩) s.regs.length s.cR (vals s.regs) :: rowI 119 1 s.Ao s.obs.length s.co (s.obs.map Ob.val) :: rowI 4 1 s.Ag s.gone.length s.cg (bools s.gone) :: s.obs.map obI
def rmI (Bm : Nat) (s : RMem) : Item := allI (rmL Bm s)
def absR (s : RMem) : MSt := ⟨s.regs, s.obs.map Ob.fields⟩
def RMem.setR (s : RMem) (r : Nat) (v : Val) : RMem := { s with regs := s.regs.set r v }
def Ob.put (o : Ob) (k : Nat) (v : Val) : Ob := ⟨o.A, o.n, o.c, o.fields.set k v⟩
def RMem.setO (s : RMem) (i k : Nat) (v : Val) (h : i < s.obs.length) : RMem := { s with obs := s.obs.set i (s.obs[i].put k v) }
def RMem.newO (s : RMem) (Ao : Option Addr) (co : Nat) (Ag : Option Addr) (cg gn R N : Nat) : RMem := ⟨s.gr, s.cR, s.regs.set R (true, s.obs.length), Ao, co, s.obs ++ [⟨some ⟨gn, 0, none⟩, N, N, zeroVs N⟩], Ag, cg, s.gone ++ [false]⟩
theorem absR_put (s : RMem) (i k : Nat) (v : Val) (hi : i < s.obs.length) : absR (s.setO i k v hi) = ⟨s.regs, (absR s).objs.set i (s.obs[i].fields.set k v)⟩ := by
  unfold absR RMem.setO
  simp [List.map_set, Ob.put]

section
variable {Bm : Nat} {s : RMem} {w : World}
theorem rm_mem (hP : (rmI Bm s).P w) : w.cell? ⟨Bm, 0, none⟩ = some (.slice (some ⟨s.gr, 0, none⟩) s.regs.length s.cR) ∧ w.cell? ⟨Bm, 1, none⟩ = some (.slice s.Ao s.obs.length s.co) ∧ w.cell? ⟨Bm, 2, none⟩ = some (.slice s.Ag s.gone.length s.cg) ∧ Bm < w.heap.size ∧ (∀ i, w.frozen? ⟨Bm, i, none⟩ = false) := by
  obtain ⟨c1, c2, c3, _⟩ := ((Sep.start hP).flat).rules 0 (g := Bm) (t := 176) rfl
  exact ⟨(c1 0).trans rfl, (c1 1).trans rfl, (c1 2).trans rfl, c3, c2⟩
theorem rm_reg (hP : (rmI Bm s).P w) (h8 : s.regs.length = 8) (r : Nat) (hr : r < 8) : w.cell? ⟨s.gr, r * 2, none⟩ = some (.bool (rgA s.regs r).1) ∧ w.cell? ⟨s.gr, r * 2 + 1, none⟩ = some (.int .i64 (rgA s.regs r).2) ∧ w.frozen? ⟨s.gr, r * 2, none⟩ = false ∧ w.frozen? ⟨s.gr, r * 2 + 1, none⟩ = false ∧ s.gr < w.heap.size := by
  have h1 : (rowI 107 2 (some ⟨s.gr, 0, none⟩) s.regs.length s.cR (vals s.regs)).P w := ((Sep.start hP).flat).get 1 rfl
  obtain ⟨a, b, c, d⟩ := hrow_val h1 r (by omega) (by omega)
  have hg : rgA s.regs (r : Int) = s.regs[r] := by unfold rgA; rw [show ((r : Int)).toNat = r from by omega, List.getD_eq_getElem?_getD, List.getElem?_eq_getElem (by omega)]; rfl
  rw [hg]
  exact ⟨a, b, c, d, ((Sep.start hP).flat).hi 1 rfl _ rfl⟩
theorem rm_len (hP : (rmI Bm s).P w) {o : Ob} (ho : o ∈ s.obs) : o.fields.length = o.n := by
  have h1 := ((Sep.start hP).flat).all (obI o) (by unfold rmL; simp only [List.mem_cons, List.mem_map]; exact .inr (.inr (.inr (.inr ⟨o, ho, rfl⟩))))
  have h2 : (vals o.fields).length = o.n * 2 := (show w.ownsRow 0 107 2 (.slice o.A o.n o.c) o.n (vals o.fields) from h1).1
  rw [vals_length] at h2; omega
theorem rm_ob (hP : (rmI Bm s).P w) {i : Nat} (hi : i < s.obs.length) : ∃ ga, s.Ao = some ⟨ga, 0, none⟩ ∧ w.cell? ⟨ga, i, none⟩ = some (.slice s.obs[i].A s.obs[i].n s.obs[i].c) ∧ ga < w.heap.size := by
  have h1 : (rowI 119 1 s.Ao s.obs.length s.co (s.obs.map Ob.val)).P w := ((Sep.start hP).flat).get 2 rfl
  obtain ⟨ga, hga⟩ := hown_addr (show w.ownsRow 0 119 1 (.slice s.Ao s.obs.length s.co) s.obs.length _ from h1) (by omega)
  obtain ⟨ad, hA, _, had, hc⟩ := (Rd.of_own (D := fun _ => True) (show w.ownsRow 0 119 1 (.slice s.Ao s.obs.length s.co) s.obs.length _ from h1) (fun _ _ => trivial)).at_ hi
  have h2 := hc _ (show (s.obs.map Ob.val)[i]? = some (.slice s.obs[i].A s.obs[i].n s.obs[i].c) from by simp [List.getElem?_eq_getElem hi, Ob.val])
  obtain rfl : (⟨ga, 0, none⟩ : Addr) = ad := by rw [hga] at hA; injection hA
  rw [hraddr0] at h2
  exact ⟨ga, hga, h2, had⟩
theorem rm_field (hP : (rmI Bm s).P w) {i k : Nat} (hi : i < s.obs.length) (hk : k < s.obs[i].fields.length) : ∃ g2, s.obs[i].A = some ⟨g2, 0, none⟩ ∧ w.cell? ⟨g2, k * 2, none⟩ = some (.bool s.obs[i].fields[k].1) ∧ w.cell? ⟨g2, k * 2 + 1, none⟩ = some (.int .i64 s.obs[i].fields[k].2) ∧ w.frozen? ⟨g2, k * 2, none⟩ = false ∧ w.frozen? ⟨g2, k * 2 + 1, none⟩ = false ∧ g2 < w.heap.size := by
  have hn := rm_len hP (List.getElem_mem hi)
  have h1 : (obI s.obs[i]).P w := ((Sep.start hP).flat).all _ (by unfold rmL; simp only [List.mem_cons, List.mem_map]; exact .inr (.inr (.inr (.inr ⟨_, List.getElem_mem hi, rfl⟩))))
  obtain ⟨g2, hg2⟩ := hown_addr (show w.ownsRow 0 107 2 (.slice s.obs[i].A s.obs[i].n s.obs[i].c) s.obs[i].n _ from h1) (by omega)
  have h2 : (rowI 107 2 (some ⟨g2, 0, none⟩) s.obs[i].n s.obs[i].c (vals s.obs[i].fields)).P w := by rw [← hg2]; exact h1
  obtain ⟨a, b, c, d⟩ := hrow_val h2 k (by omega) hk
  exact ⟨g2, hg2, a, b, c, d, (obI s.obs[i]).dom w h1 g2 (by show (Value.slice s.obs[i].A s.obs[i].n s.obs[i].c).ownBlock = some g2; rw [hg2]; rfl)⟩
theorem rm_setR (hP : (rmI Bm s).P w) (r : Nat) (v : Val) : Sep (rmI Bm s).fp w ((w.setCell ⟨s.gr, r * 2, none⟩ (.bool v.1)).setCell ⟨s.gr, r * 2 + 1, none⟩ (.int .i64 v.2)) [rmI Bm (s.setR r v)] := by
  have h := ((Sep.start hP).flat).store2 1 rfl (r * 2) (.bool v.1) (.int .i64 v.2)
  unfold rmL at h
  simp only [List.set_cons_succ, List.set_cons_zero, vals_set2] at h
  refine Sep.fold (l := rmL Bm (s.setR r v)) ?_
  unfold rmL RMem.setR
  dsimp only
  rw [List.length_set]
  exact h
theorem obs_put (l : List Ob) (i k : Nat) (v : Val) (h : i < l.length) : (l.set i (l[i].put k v)).map Ob.val = l.map Ob.val := by
  rw [List.map_set]
  refine List.ext_getElem (by simp) fun j h1 h2 => ?_
  rw [List.getElem_set]
  split
  · rename_i e; subst e; simp [Ob.put, Ob.val]
  · rfl
theorem rm_setO (hP : (rmI Bm s).P w) {i k g2 : Nat} (hi : i < s.obs.length) (hA : s.obs[i].A = some ⟨g2, 0, none⟩) (v : Val) : Sep (rmI Bm s).fp w ((w.setCell ⟨g2, k * 2, none⟩ (.bool v.1)).setCell ⟨g2, k * 2 + 1, none⟩ (.int .i64 v.2)) [rmI Bm (s.setO i k v hi)] := by
  obtain ⟨pre, hpre⟩ : ∃ pre, pre = [blkI Bm 176 #[.slice (some ⟨s.gr, 0, none⟩) s.regs.length s.cR, .slice s.Ao s.obs.length s.co, .slice s.Ag s.gone.length s.cg], rowI 107 2 (some ⟨s.gr, 0, none⟩) s.regs.length s.cR (vals s.regs), rowI 119 1 s.Ao s.obs.length s.co (s.obs.map Ob.val), rowI 4 1 s.Ag s.gone.length s.cg (bools s.gone)] := ⟨_, rfl⟩
  have h0 : Sep (rmI Bm s).fp w w (pre ++ s.obs.map obI) := by rw [hpre]; exact (Sep.start hP).flat
  have h1 := h0.focus (j := i) (t := s.obs[i]) (List.getElem?_eq_getElem hi)
  have he : obI s.obs[i] = rowI 107 2 (some ⟨g2, 0, none⟩) s.obs[i].n s.obs[i].c (vals s.obs[i].fields) := by unfold obI; rw [hA]
  rw [he] at h1
  have h2 := h1.store2 0 rfl (k * 2) (.bool v.1) (.int .i64 v.2)
  rw [List.set_cons_zero, vals_set2] at h2
  have he2 : obI (s.obs[i].put k v) = rowI 107 2 (some ⟨g2, 0, none⟩) s.obs[i].n s.obs[i].c (vals (s.obs[i].fields.set k (v.1, v.2))) := by unfold obI Ob.put; dsimp only; rw [hA]
  rw [← he2] at h2
  have h3 := h2.unfocus (l := s.obs) (j := i) hi
  refine Sep.fold (l := rmL Bm (s.setO i k v hi)) ?_
  unfold rmL RMem.setO
  dsimp only
  rw [obs_put s.obs i k v hi, List.length_set]
  rw [hpre] at h3
  exact h3
end
end Go.Proofs.Ytjphckfbbiehdaa
