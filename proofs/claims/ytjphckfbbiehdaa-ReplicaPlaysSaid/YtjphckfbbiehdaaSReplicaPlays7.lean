/- A machine, plain: what is done. What a call has of its own: a slice cut, cleared; two cells stored at once. The reference's memory: what it has; a register's place, an object's, a field's; what a store turns. A machine over a memory without end: what it does. '==' on two values. The reference's memory: what is done, where nothing is wrong. -/
import Derived.Test.YtjphckfbbiehdaaSReplicaPlays6
import Derived.Test.YtjphckfbbiehdaaSReplicaPlays1
import Derived.StillTailTactics
import Derived.Test.YtjphckfbbiehdaaSReplicaPlays2
import Derived.Laws.StructEq
set_option linter.unusedSimpArgs false
set_option linter.unusedVariables false
namespace Go.Proofs.Ytjphckfbbiehdaa
structure MSt where
  regs : List Val
  objs : List (List Val)
structure OutV where
  code : Int
  rf : Bool
  n : Int
def OutV.val (o : OutV) : Value := .agg #[.int .i64 o.code, .bool o.rf, .int .i64 o.n]
def rgA (l : List Val) (r : Int) : Val := l.getD r.toNat (false, 0)
def obA (l : List (List Val)) (x : Int) : List Val := l.getD x.toNat []
def fErr (objs : List (List Val)) (v : Val) (at_ : Int) : Int := if v.1 = false then 5 else if at_ < 0 ∨ ((obA objs v.2).length : Int) ≤ at_ then 3 else 0
def stepK (d : DoV) (σ : MSt) : OutV × MSt :=
  if d.k = 1 then (⟨0, false, 0⟩, ⟨σ.regs.set d.to.toNat (true, σ.objs.length), σ.objs ++ [zeroVs d.n.toNat]⟩)
  else if d.k = 2 then (⟨0, false, 0⟩, ⟨σ.regs.set d.to.toNat (false, d.n), σ.objs⟩)
  else if d.k = 3 then (⟨0, false, 0⟩, ⟨σ.regs.set d.to.toNat (rgA σ.regs d.fr), σ.objs⟩)
  else if d.k = 4 then
    if fErr σ.objs (rgA σ.regs d.to) d.at_ ≠ 0 then (⟨fErr σ.objs (rgA σ.regs d.to) d.at_, false, 0⟩, σ)
    else (⟨0, false, 0⟩, ⟨σ.regs, σ.objs.set (rgA σ.regs d.to).2.toNat ((obA σ.objs (rgA σ.regs d.to).2).set d.at_.toNat (rgA σ.regs d.fr))⟩)
  else if d.k = 5 then
    if fErr σ.objs (rgA σ.regs d.fr) d.at_ ≠ 0 then (⟨fErr σ.objs (rgA σ.regs d.fr) d.at_, false, 0⟩, σ)
    else (⟨0, false, 0⟩, ⟨σ.regs.set d.to.toNat ((obA σ.objs (rgA σ.regs d.fr).2).getD d.at_.toNat (false, 0)), σ.objs⟩)
  else if d.k = 6 then (⟨0, false, if rgA σ.regs d.to = rgA σ.regs d.fr then 1 else 0⟩, σ)
  else (⟨0, (rgA σ.regs d.fr).1, if (rgA σ.regs d.fr).1 = true then (obA σ.objs (rgA σ.regs d.fr).2).length else (rgA σ.regs d.fr).2⟩, σ)
def stepM (d : DoV) (σ : MSt) : OutV × MSt := if wrongM d ≠ 0 then (⟨wrongM d, false, 0⟩, σ) else stepK d σ
/-- What a machine's state may be. -/
structure MOk (σ : MSt) : Prop where
  r8 : σ.regs.length = 8
  vr : ValsOk σ.objs.length σ.regs
  vo : ∀ fs ∈ σ.objs, ValsOk σ.objs.length fs
  f4 : ∀ fs ∈ σ.objs, fs.length ≤ 4
theorem valsOk_mono {n m : Nat} {l : List Val} (h : ValsOk n l) (hm : n ≤ m) : ValsOk m l := fun v hv h1 => by have h2 := h v hv h1; exact ⟨h2.1, by have := h2.2; omega⟩
theorem zeroVs_ok (n m : Nat) : ValsOk n (zeroVs m) := fun v hv h1 => by
  obtain ⟨_, rfl⟩ := List.mem_replicate.1 hv
  cases h1
theorem mem_set_ {α : Type} {l : List α} {i : Nat} {a b : α} (h : b ∈ l.set i a) : b ∈ l ∨ b = a := by
  rcases List.mem_or_eq_of_mem_set h with h | h
  · exact .inl h
  · exact .inr h
theorem valsOk_set {n : Nat} {l : List Val} (h : ValsOk n l) (i : Nat) {v : Val} (hv : v.1 = true → 0 ≤ v.2 ∧ v.2 < (n : Int)) : ValsOk n (l.set i v) := fun u hu h1 => by
  rcases mem_set_ hu with h2 | rfl
  · exact h u h2 h1
  · exact hv h1
theorem getD_mem_or {α : Type} (l : List α) (i : Nat) (d : α) : l.getD i d ∈ l ∨ l.getD i d = d := by
  rw [List.getD_eq_getElem?_getD]
  cases h : l[i]? with
  | none => right; rfl
  | some a => left; exact List.mem_of_getElem? h
theorem valsOk_getD {n : Nat} {l : List Val} (h : ValsOk n l) (i : Nat) : (l.getD i (false, 0)).1 = true → 0 ≤ (l.getD i (false, 0)).2 ∧ (l.getD i (false, 0)).2 < (n : Int) := fun h1 => by
  rcases getD_mem_or l i (false, 0) with h2 | h2
  · exact h _ h2 h1
  · rw [h2] at h1; cases h1
theorem MOk.ob {σ : MSt} (h : MOk σ) (x : Int) : ValsOk σ.objs.length (obA σ.objs x) ∧ (obA σ.objs x).length ≤ 4 := by
  unfold obA
  rcases getD_mem_or σ.objs x.toNat [] with h2 | h2
  · exact ⟨h.vo _ h2, h.f4 _ h2⟩
  · rw [h2]; exact ⟨fun v hv => (by cases hv), by simp⟩
theorem MOk.step {σ : MSt} (h : MOk σ) (d : DoV) : MOk (stepM d σ).2 ∧ σ.objs.length ≤ (stepM d σ).2.objs.length ∧ (stepM d σ).2.objs.length ≤ σ.objs.length + 1 := by
  unfold stepM
  by_cases hw : wrongM d ≠ 0
  · rw [if_pos hw]; exact ⟨h, Nat.le_refl _, Nat.le_succ _⟩
  rw [if_neg hw]
  unfold stepK
  have hr := fun r => valsOk_getD h.vr r
  have hwn : d.k = 1 → d.n ≤ 4 := fun hk => by
    have hw2 : wrongM d = 0 := by omega
    unfold wrongM at hw2
    rw [if_neg (by omega)] at hw2
    split at hw2
    · omega
    · split at hw2
      · omega
      · rename_i h3
        omega
  split
  · rename_i hk
    refine ⟨⟨by simp [h.r8], ?_, ?_, ?_⟩, by simp, by simp⟩
    · dsimp only
      rw [List.length_append, List.length_singleton]
      exact valsOk_set (valsOk_mono h.vr (by omega)) _ (fun _ => by dsimp only; omega)
    · dsimp only
      rw [List.length_append, List.length_singleton]
      intro fs hfs
      rcases List.mem_append.1 hfs with h1 | h1
      · exact valsOk_mono (h.vo fs h1) (by omega)
      · rw [List.mem_singleton.1 h1]; exact zeroVs_ok _ _
    · intro fs hfs
      rcases List.mem_append.1 hfs with h1 | h1
      · exact h.f4 fs h1
      · rw [List.mem_singleton.1 h1]
        have := hwn hk
        simp [zeroVs]; omega
  split
  · exact ⟨⟨by simp [h.r8], valsOk_set h.vr _ (fun h => by cases h), h.vo, h.f4⟩, Nat.le_refl _, Nat.le_succ _⟩
  split
  · exact ⟨⟨by simp [h.r8], valsOk_set h.vr _ (hr _), h.vo, h.f4⟩, Nat.le_refl _, Nat.le_succ _⟩
  split
  · split
    · exact ⟨h, Nat.le_refl _, Nat.le_succ _⟩
    · refine ⟨⟨h.r8, by simpa using h.vr, ?_, ?_⟩, by simp, by simp⟩
      · intro fs hfs
        rw [List.length_set]
        rcases mem_set_ hfs with h1 | rfl
        · exact h.vo fs h1
        · exact valsOk_set (h.ob _).1 _ (hr _)
      · intro fs hfs
        rcases mem_set_ hfs with h1 | rfl
        · exact h.f4 fs h1
        · rw [List.length_set]; exact (h.ob _).2
  split
  · split
    · exact ⟨h, Nat.le_refl _, Nat.le_succ _⟩
    · exact ⟨⟨by simp [h.r8], valsOk_set h.vr _ (valsOk_getD (h.ob _).1 _), h.vo, h.f4⟩, Nat.le_refl _, Nat.le_succ _⟩
  split
  · exact ⟨h, Nat.le_refl _, Nat.le_succ _⟩
  · exact ⟨h, Nat.le_refl _, Nat.le_succ _⟩
theorem wrongM_rng {d : DoV} (h : wrongM d = 0) : 1 ≤ d.k ∧ d.k ≤ 7 := by
  unfold wrongM at h
  split at h
  · omega
  · omega
theorem wrongM_to {d : DoV} (h : wrongM d = 0) (hk : d.k ≠ 7) : 0 ≤ d.to ∧ d.to < 8 := by
  refine badR_no ?_
  unfold wrongM at h
  split at h
  · omega
  · split at h
    · omega
    · rename_i h2
      cases hb : badR d.to
      · rfl
      · exact absurd (.inl ⟨hk, hb⟩) h2
theorem wrongM_fr {d : DoV} (h : wrongM d = 0) (hk : d.k ≠ 1) (hk2 : d.k ≠ 2) : 0 ≤ d.fr ∧ d.fr < 8 := by
  refine badR_no ?_
  unfold wrongM at h
  split at h
  · omega
  · split at h
    · omega
    · rename_i h2
      cases hb : badR d.fr
      · rfl
      · exact absurd (.inr ⟨hk, hk2, hb⟩) h2
theorem wrongM_n {d : DoV} (h : wrongM d = 0) (hk : d.k = 1) : 0 ≤ d.n ∧ d.n ≤ 4 := by
  unfold wrongM at h
  split at h
  · omega
  · split at h
    · omega
    · split at h
      · omega
      · rename_i h3; omega
end Go.Proofs.Ytjphckfbbiehdaa

namespace Go.Proofs.Ytjphckfbbiehdaa
open Go.RowKit
section
variable {F : Nat → Prop} {W w : World} {items : List Item}
/-- A store of a struct of two cells into a slice of the call's own. -/
theorem Sep.store2 (h : Sep F W w items) (k : Nat) {e size n c g : Nat} {xs : List Value} (hk : items[k]? = some (rowI e size (some ⟨g, 0, none⟩) n c xs)) (j : Nat) (u v : Value) :
    Sep F W ((w.setCell ⟨g, j, none⟩ u).setCell ⟨g, j + 1, none⟩ v) (items.set k (rowI e size (some ⟨g, 0, none⟩) n c ((xs.set j u).set (j + 1) v))) := by
  have hkl := (List.getElem?_eq_some_iff.1 hk).1
  have h1 := (h.store k hk j u).store k (xs := xs.set j u) (by simp [hkl]; rfl) (j + 1) v
  simpa using h1
end
end Go.Proofs.Ytjphckfbbiehdaa

namespace Go.Proofs.Ytjphckfbbiehdaa
open Go.RowKit
structure RMem where
  gr : Nat
  cR : Nat
  regs : List Val
  Ao : Option Addr
  co : Nat
  obs : List Ob
  Ag : Option Addr
  cg : Nat
  gone : List Bool
def bools (l : List Bool) : List Value := l.map Value.bool
def rmL (Bm : Nat) (s : RMem) : List Item :=
  blkI Bm 176 #[.slice (some ⟨s.gr, 0, none⟩) s.regs.length s.cR, .slice s.Ao s.obs.length s.co, .slice s.Ag s.gone.length s.cg] :: rowI 107 2 (some ⟨s.gr, 0, none⟩) s.regs.length s.cR (vals s.regs) :: rowI 119 1 s.Ao s.obs.length s.co (s.obs.map Ob.val) :: rowI 4 1 s.Ag s.gone.length s.cg (bools s.gone) :: s.obs.map obI
def rmI (Bm : Nat) (s : RMem) : Item := allI (rmL Bm s)
def absR (s : RMem) : MSt := ⟨s.regs, s.obs.map Ob.fields⟩
def RMem.setR (s : RMem) (r : Nat) (v : Val) : RMem := { s with regs := s.regs.set r v }
def Ob.put (o : Ob) (k : Nat) (v : Val) : Ob := ⟨o.A, o.n, o.c, o.fields.set k v⟩
def RMem.setO (s : RMem) (i k : Nat) (v : Val) (h : i < s.obs.length) : RMem := { s with obs := s.obs.set i (s.obs[i].put k v) }
def RMem.newO (s : RMem) (Ao : Option Addr) (co : Nat) (Ag : Option Addr) (cg gn R N : Nat) : RMem := ⟨s.gr, s.cR, s.regs.set R (true, s.obs.length), Ao, co, s.obs ++ [⟨some ⟨gn, 0, none⟩, N, N, zeroVs N⟩], Ag, cg, s.gone ++ [false]⟩
theorem absR_put (s : RMem) (i k : Nat) (v : Val) (hi : i < s.obs.length) : absR (s.setO i k v hi) = ⟨s.regs, (absR s).objs.set i (s.obs[i].fields.set k v)⟩ := by
  unfold absR RMem.setO
  simp [List.map_set, Ob.put]
section
variable {Bm : Nat} {s : RMem} {w : World}
theorem rm_mem (hP : (rmI Bm s).P w) : w.cell? ⟨Bm, 0, none⟩ = some (.slice (some ⟨s.gr, 0, none⟩) s.regs.length s.cR) ∧ w.cell? ⟨Bm, 1, none⟩ = some (.slice s.Ao s.obs.length s.co) ∧ w.cell? ⟨Bm, 2, none⟩ = some (.slice s.Ag s.gone.length s.cg) ∧ Bm < w.heap.size ∧ (∀ i, w.frozen? ⟨Bm, i, none⟩ = false) := by
  obtain ⟨c1, c2, c3, _⟩ := ((Sep.start hP).flat).rules 0 (g := Bm) (t := 176) rfl
  exact ⟨(c1 0).trans rfl, (c1 1).trans rfl, (c1 2).trans rfl, c3, c2⟩
theorem rm_reg (hP : (rmI Bm s).P w) (h8 : s.regs.length = 8) (r : Nat) (hr : r < 8) : w.cell? ⟨s.gr, r * 2, none⟩ = some (.bool (rgA s.regs r).1) ∧ w.cell? ⟨s.gr, r * 2 + 1, none⟩ = some (.int .i64 (rgA s.regs r).2) ∧ w.frozen? ⟨s.gr, r * 2, none⟩ = false ∧ w.frozen? ⟨s.gr, r * 2 + 1, none⟩ = false ∧ s.gr < w.heap.size := by
  have h1 : (rowI 107 2 (some ⟨s.gr, 0, none⟩) s.regs.length s.cR (vals s.regs)).P w := ((Sep.start hP).flat).get 1 rfl
  obtain ⟨a, b, c, d⟩ := hrow_val h1 r (by omega) (by omega)
  have hg : rgA s.regs (r : Int) = s.regs[r] := by unfold rgA; rw [show ((r : Int)).toNat = r from by omega, List.getD_eq_getElem?_getD, List.getElem?_eq_getElem (by omega)]; rfl
  rw [hg]
  exact ⟨a, b, c, d, ((Sep.start hP).flat).hi 1 rfl _ rfl⟩
theorem rm_len (hP : (rmI Bm s).P w) {o : Ob} (ho : o ∈ s.obs) : o.fields.length = o.n := by
  have h1 := ((Sep.start hP).flat).all (obI o) (by unfold rmL; simp only [List.mem_cons, List.mem_map]; exact .inr (.inr (.inr (.inr ⟨o, ho, rfl⟩))))
  have h2 : (vals o.fields).length = o.n * 2 := (show w.ownsRow 0 107 2 (.slice o.A o.n o.c) o.n (vals o.fields) from h1).1
  rw [vals_length] at h2; omega
theorem rm_ob (hP : (rmI Bm s).P w) {i : Nat} (hi : i < s.obs.length) : ∃ ga, s.Ao = some ⟨ga, 0, none⟩ ∧ w.cell? ⟨ga, i, none⟩ = some (.slice s.obs[i].A s.obs[i].n s.obs[i].c) ∧ ga < w.heap.size := by
  have h1 : (rowI 119 1 s.Ao s.obs.length s.co (s.obs.map Ob.val)).P w := ((Sep.start hP).flat).get 2 rfl
  obtain ⟨ga, hga⟩ := hown_addr (show w.ownsRow 0 119 1 (.slice s.Ao s.obs.length s.co) s.obs.length _ from h1) (by omega)
  obtain ⟨ad, hA, _, had, hc⟩ := (Rd.of_own (D := fun _ => True) (show w.ownsRow 0 119 1 (.slice s.Ao s.obs.length s.co) s.obs.length _ from h1) (fun _ _ => trivial)).at_ hi
  have h2 := hc _ (show (s.obs.map Ob.val)[i]? = some (.slice s.obs[i].A s.obs[i].n s.obs[i].c) from by simp [List.getElem?_eq_getElem hi, Ob.val])
  obtain rfl : (⟨ga, 0, none⟩ : Addr) = ad := by rw [hga] at hA; injection hA
  rw [hraddr0] at h2
  exact ⟨ga, hga, h2, had⟩
theorem rm_field (hP : (rmI Bm s).P w) {i k : Nat} (hi : i < s.obs.length) (hk : k < s.obs[i].fields.length) : ∃ g2, s.obs[i].A = some ⟨g2, 0, none⟩ ∧ w.cell? ⟨g2, k * 2, none⟩ = some (.bool s.obs[i].fields[k].1) ∧ w.cell? ⟨g2, k * 2 + 1, none⟩ = some (.int .i64 s.obs[i].fields[k].2) ∧ w.frozen? ⟨g2, k * 2, none⟩ = false ∧ w.frozen? ⟨g2, k * 2 + 1, none⟩ = false ∧ g2 < w.heap.size := by
  have hn := rm_len hP (List.getElem_mem hi)
  have h1 : (obI s.obs[i]).P w := ((Sep.start hP).flat).all _ (by unfold rmL; simp only [List.mem_cons, List.mem_map]; exact .inr (.inr (.inr (.inr ⟨_, List.getElem_mem hi, rfl⟩))))
  obtain ⟨g2, hg2⟩ := hown_addr (show w.ownsRow 0 107 2 (.slice s.obs[i].A s.obs[i].n s.obs[i].c) s.obs[i].n _ from h1) (by omega)
  have h2 : (rowI 107 2 (some ⟨g2, 0, none⟩) s.obs[i].n s.obs[i].c (vals s.obs[i].fields)).P w := by rw [← hg2]; exact h1
  obtain ⟨a, b, c, d⟩ := hrow_val h2 k (by omega) hk
  exact ⟨g2, hg2, a, b, c, d, (obI s.obs[i]).dom w h1 g2 (by show (Value.slice s.obs[i].A s.obs[i].n s.obs[i].c).ownBlock = some g2; rw [hg2]; rfl)⟩
theorem rm_setR (hP : (rmI Bm s).P w) (r : Nat) (v : Val) : Sep (rmI Bm s).fp w ((w.setCell ⟨s.gr, r * 2, none⟩ (.bool v.1)).setCell ⟨s.gr, r * 2 + 1, none⟩ (.int .i64 v.2)) [rmI Bm (s.setR r v)] := by
  have h := ((Sep.start hP).flat).store2 1 rfl (r * 2) (.bool v.1) (.int .i64 v.2)
  unfold rmL at h
  simp only [List.set_cons_succ, List.set_cons_zero, vals_set2] at h
  refine Sep.fold (l := rmL Bm (s.setR r v)) ?_
  unfold rmL RMem.setR
  dsimp only
  rw [List.length_set]
  exact h
theorem obs_put (l : List Ob) (i k : Nat) (v : Val) (h : i < l.length) : (l.set i (l[i].put k v)).map Ob.val = l.map Ob.val := by
  rw [List.map_set]
  refine List.ext_getElem (by simp) fun j h1 h2 => ?_
  rw [List.getElem_set]
  split
  · rename_i e; subst e; simp [Ob.put, Ob.val]
  · rfl
theorem rm_setO (hP : (rmI Bm s).P w) {i k g2 : Nat} (hi : i < s.obs.length) (hA : s.obs[i].A = some ⟨g2, 0, none⟩) (v : Val) : Sep (rmI Bm s).fp w ((w.setCell ⟨g2, k * 2, none⟩ (.bool v.1)).setCell ⟨g2, k * 2 + 1, none⟩ (.int .i64 v.2)) [rmI Bm (s.setO i k v hi)] := by
  obtain ⟨pre, hpre⟩ : ∃ pre, pre = [blkI Bm 176 #[.slice (some ⟨s.gr, 0, none⟩) s.regs.length s.cR, .slice s.Ao s.obs.length s.co, .slice s.Ag s.gone.length s.cg], rowI 107 2 (some ⟨s.gr, 0, none⟩) s.regs.length s.cR (vals s.regs), rowI 119 1 s.Ao s.obs.length s.co (s.obs.map Ob.val), rowI 4 1 s.Ag s.gone.length s.cg (bools s.gone)] := ⟨_, rfl⟩
  have h0 : Sep (rmI Bm s).fp w w (pre ++ s.obs.map obI) := by rw [hpre]; exact (Sep.start hP).flat
  have h1 := h0.focus (j := i) (t := s.obs[i]) (List.getElem?_eq_getElem hi)
  have he : obI s.obs[i] = rowI 107 2 (some ⟨g2, 0, none⟩) s.obs[i].n s.obs[i].c (vals s.obs[i].fields) := by unfold obI; rw [hA]
  rw [he] at h1
  have h2 := h1.store2 0 rfl (k * 2) (.bool v.1) (.int .i64 v.2)
  rw [List.set_cons_zero, vals_set2] at h2
  have he2 : obI (s.obs[i].put k v) = rowI 107 2 (some ⟨g2, 0, none⟩) s.obs[i].n s.obs[i].c (vals (s.obs[i].fields.set k (v.1, v.2))) := by unfold obI Ob.put; dsimp only; rw [hA]
  rw [← he2] at h2
  have h3 := h2.unfocus (l := s.obs) (j := i) hi
  refine Sep.fold (l := rmL Bm (s.setO i k v hi)) ?_
  unfold rmL RMem.setO
  dsimp only
  rw [obs_put s.obs i k v hi, List.length_set]
  rw [hpre] at h3
  exact h3
end
end Go.Proofs.Ytjphckfbbiehdaa

namespace Go.Proofs.Ytjphckfbbiehdaa
open Go.RowKit
def absI (s : Idl) : MSt := ⟨s.regs, s.ps.map fun p => p.o.fields⟩
def DoOk (Bm Be : Nat) (s : Idl) (w : World) (d : DoV) : Prop :=
  Calls Try.prog 43 #[.pointer (some ⟨Bm, 0, none⟩), .agg d.cells] w fun e w' => ∃ s', e = .returned (stepM d (absI s)).1.val ∧ absI s' = (stepM d (absI s)).2 ∧ Sep (idI Bm Be s).fp w w' [idI Bm Be s']
theorem ferr_zero {objs : List (List Val)} {v : Val} {at_ : Int} (h : fErr objs v at_ = 0) : v.1 = true ∧ 0 ≤ at_ ∧ at_ < ((obA objs v.2).length : Int) := by
  unfold fErr at h
  split at h
  · omega
  · rename_i h1
    split at h
    · omega
    · exact ⟨by simpa using h1, by omega, by omega⟩
end Go.Proofs.Ytjphckfbbiehdaa

namespace Go.Proofs.Ytjphckfbbiehdaa
open Go.RowKit
theorem eq_val (w : World) (a b : Bool) (m n : Int) : (binOp .eql 107 (.agg #[.bool a, .int .i64 m]) (.agg #[.bool b, .int .i64 n])).run Try.prog w = .ok (.bool (decide (((a, m) : Val) = (b, n)))) w := by
  have h1 : Try.prog.underlying 107 = some (.struct (Try.prog.fieldsOf 107)) := by kernel_rfl
  have h2 : Try.prog.stoodInHeld 107 = false := by kernel_rfl
  have h3 : Try.prog.underlying 4 = some .bool := by kernel_rfl
  have h4 : Try.prog.underlying 2 = some (.int .i64) := by kernel_rfl
  rw [run_eql_struct, run_equalIn_agg _ _ _ _ _ h1 h2]
  have h5 : (Try.prog.fieldsOf 107).toList = [(Try.prog.fieldsOf 107).toList[0]!, (Try.prog.fieldsOf 107).toList[1]!] := by kernel_rfl
  have n1 : ((Try.prog.fieldsOf 107).toList[0]!).name = "Ref" := by kernel_rfl
  have n2 : ((Try.prog.fieldsOf 107).toList[0]!).type = 4 := by kernel_rfl
  have n3 : ((Try.prog.fieldsOf 107).toList[0]!).offset = 0 := by kernel_rfl
  have n4 : ((Try.prog.fieldsOf 107).toList[1]!).name = "N" := by kernel_rfl
  have n5 : ((Try.prog.fieldsOf 107).toList[1]!).type = 2 := by kernel_rfl
  have n6 : ((Try.prog.fieldsOf 107).toList[1]!).offset = 1 := by kernel_rfl
  rw [h5]
  obtain ⟨f1, hf1⟩ : ∃ f, (Try.prog.fieldsOf 107).toList[0]! = f := ⟨_, rfl⟩
  obtain ⟨f2, hf2⟩ : ∃ f, (Try.prog.fieldsOf 107).toList[1]! = f := ⟨_, rfl⟩
  rw [hf1] at n1 n2 n3 ⊢
  rw [hf2] at n4 n5 n6 ⊢
  have p1 : ∀ x y, (part 4 #[x, y] 0).run Try.prog w = .ok x w := fun x y => by kernel_rfl
  have p2 : ∀ x y, (part 2 #[x, y] 1).run Try.prog w = .ok y w := fun x y => by kernel_rfl
  simp only [Op.eqFields, n1, n2, n3, n4, n5, n6, ne_eq, Sem.run_ite, Sem.run_bind, p1, p2, Result.andThen_ok, run_equalIn_bool' w _ _ _ _ h3, run_equalIn_int w _ _ _ _ _ _ h4]
  cases a <;> cases b <;> simp <;> by_cases h : m = n <;> simp [h]
theorem guard_val (w : World) (x y : Operand) (a b : Bool) (m n : Int) : (eqGuard .eql 107 x y (.agg #[.bool a, .int .i64 m]) (.agg #[.bool b, .int .i64 n])).run Try.prog w = .ok () w :=
  run_eqGuard_agg w .eql _ x y _ _ (by kernel_rfl)
end Go.Proofs.Ytjphckfbbiehdaa

namespace Go.Proofs.Ytjphckfbbiehdaa
open Go.RowKit
def rWrong (d : DoV) (σ : MSt) : Int := if wrongM d ≠ 0 then wrongM d else if d.k = 4 then fErr σ.objs (rgA σ.regs d.to) d.at_ else if d.k = 5 then fErr σ.objs (rgA σ.regs d.fr) d.at_ else 0
theorem stepM_rw (d : DoV) (σ : MSt) : stepM d σ = if rWrong d σ ≠ 0 then (⟨rWrong d σ, false, 0⟩, σ) else stepK d σ := by
  unfold stepM rWrong
  by_cases h : wrongM d ≠ 0
  · simp [h]
  · rw [if_neg h, if_neg h]
    unfold stepK
    by_cases h4 : d.k = 4
    · rw [h4]
      simp only [show ¬(4 : Int) = 1 from by decide, show ¬(4 : Int) = 2 from by decide, show ¬(4 : Int) = 3 from by decide, if_false, if_true]
      by_cases hp : fErr σ.objs (rgA σ.regs d.to) d.at_ = 0 <;> simp [hp]
    by_cases h5 : d.k = 5
    · rw [h5]
      simp only [show ¬(5 : Int) = 1 from by decide, show ¬(5 : Int) = 2 from by decide, show ¬(5 : Int) = 3 from by decide, show ¬(5 : Int) = 4 from by decide, if_false, if_true]
      by_cases hp : fErr σ.objs (rgA σ.regs d.fr) d.at_ = 0 <;> simp [hp]
    · simp [h4, h5]
def goneD (d : DoV) (gone : List Bool) : List Bool := if d.k = 1 then gone ++ [false] else gone
def RDoOk (Bm : Nat) (s : RMem) (w : World) (d : DoV) : Prop :=
  Calls Try.prog 81 #[.pointer (some ⟨Bm, 0, none⟩), .agg d.cells] w fun e w' => ∃ s', e = .returned (stepK d (absR s)).1.val ∧ absR s' = (stepK d (absR s)).2 ∧ Sep (rmI Bm s).fp w w' [rmI Bm s'] ∧ s'.gone.length = s'.obs.length ∧ s'.gone = goneD d s.gone
structure ROk (s : RMem) : Prop where
  m : MOk (absR s)
  n : s.obs.length ≤ 500
  k : s.gone.length = s.obs.length
theorem rferr_facts {Bm : Nat} {s : RMem} {w : World} (hP : (rmI Bm s).P w) (ok : ROk s) (r : Nat) {at_ : Int} (hz : fErr (absR s).objs (rgA s.regs r) at_ = 0) :
    ∃ i k : Nat, rgA s.regs r = (true, (i : Int)) ∧ at_ = (k : Int) ∧ ∃ hi : i < s.obs.length, k < s.obs[i].fields.length ∧ k < s.obs[i].n ∧ s.obs[i].n ≤ 4 ∧ obA (absR s).objs (i : Int) = s.obs[i].fields := by
  obtain ⟨h1, h2, h3⟩ := ferr_zero hz
  have hps : (absR s).objs.length = s.obs.length := by simp [absR]
  have hv := valsOk_getD ok.m.vr r
  have hv2 : (rgA s.regs r).1 = true → 0 ≤ (rgA s.regs r).2 ∧ (rgA s.regs r).2 < (s.obs.length : Int) := by rw [← hps]; unfold rgA; rw [show ((r : Int)).toNat = r from by omega]; exact hv
  obtain ⟨h4, h5⟩ := hv2 h1
  obtain ⟨i, hi2⟩ := int_nat h4
  obtain ⟨k, rfl⟩ := int_nat h2
  have hi : i < s.obs.length := by omega
  have e2 : obA (absR s).objs (i : Int) = s.obs[i].fields := by
    unfold obA absR
    rw [show ((i : Int)).toNat = i from by omega, List.getD_eq_getElem?_getD]; simp [List.getElem?_eq_getElem hi]
  have e3 := rm_len hP (List.getElem_mem hi)
  have e4 := ok.m.f4 s.obs[i].fields (by unfold absR; exact List.mem_map.2 ⟨s.obs[i], List.getElem_mem hi, rfl⟩)
  rw [hi2, e2] at h3
  exact ⟨i, k, Prod.ext h1 hi2, rfl, hi, by omega, by omega, by omega, e2⟩
set_option maxRecDepth 100000 in
set_option maxHeartbeats 16000000 in
theorem rdo_2 {Bm : Nat} {s : RMem} {w : World} (hP : (rmI Bm s).P w) (ok : ROk s) (R : Nat) (hR : R < 8) (fr at_ n : Int) : RDoOk Bm s w ⟨2, R, fr, at_, n⟩ := by
  unfold RDoOk
  obtain ⟨F, hF⟩ : ∃ F, (rmI Bm s).fp = F := ⟨_, rfl⟩
  obtain ⟨g, hg⟩ : ∃ g, w.heap.size = g := ⟨_, rfl⟩
  have hS0 := ((Sep.start hP).blkAt 39 (DoV.cells ⟨2, R, fr, at_, n⟩) (g := g) hg).blkAt 41 #[.int .i64 0, .bool false, .int .i64 0] (g := g + 1) (by simp [hg])
  rw [hF] at hS0 ⊢
  have h8 : s.regs.length = 8 := ok.m.r8
  have hps : (absR s).objs.length = s.obs.length := by simp [absR]
  have hgr := (rm_reg hP h8 0 (by omega)).2.2.2.2
  rw [hg] at hgr
  have q1 : s.gr ≠ g + 1 := by omega
  have q2 : s.gr ≠ g := by omega
  have hmx : Try.prog.follows .mixedOrders = true := by kernel_rfl
  obtain ⟨res, hres⟩ : ∃ r, stepK ⟨2, R, fr, at_, n⟩ (absR s) = r := ⟨_, rfl⟩
  have hst : res = (⟨0, false, 0⟩, ⟨s.regs.set R (false, n), (absR s).objs⟩) := by
    rw [← hres]
    rfl
  rw [hres]
  have HRES := hide hst
  clear hst hres
  unfold DoV.cells at hS0 ⊢
  dsimp only at hS0 ⊢
  obtain ⟨a1, _, a3, _⟩ := hS0.rules 1 (g := g) (t := 39) rfl
  have e0 := (a1 0).trans (show _ = some (.int .i64 2) from rfl)
  have e1 := (a1 1).trans (show _ = some (.int .i64 _) from rfl)
  have e2 := (a1 2).trans (show _ = some (.int .i64 _) from rfl)
  have e3 := (a1 3).trans (show _ = some (.int .i64 _) from rfl)
  have e4 := (a1 4).trans (show _ = some (.int .i64 _) from rfl)
  obtain ⟨b1, b2, b3, _⟩ := hS0.rules 2 (g := g + 1) (t := 41) rfl
  have f0 := (b1 0).trans (show _ = some (.int .i64 0) from rfl)
  have f1 := (b1 1).trans (show _ = some (.bool false) from rfl)
  have f2 := (b1 2).trans (show _ = some (.int .i64 0) from rfl)
  have hP0 : (rmI Bm s).P _ := hS0.get 0 rfl
  obtain ⟨m0, m1, m2, m3, m4⟩ := rm_mem hP0
  obtain ⟨L, hL⟩ : ∃ x, s.regs.length = x := ⟨_, rfl⟩
  rw [hL] at m0
  have hLL : L = 8 := by omega
  obtain ⟨r0, r1, r2, r3, r4⟩ := rm_reg hP0 h8 R hR
  have z1 : R < L := by omega
  clear hL hLL
  have HS0 := hide hS0
  have HOK := hide ok
  clear a1 b1 hS0 hP0 hF hP ok hps
  go_enter Try.func81, Try.ntmps81
  go_wp2_with fail
  obtain ⟨W, hW⟩ : ∃ W, (w.alloc (.cells #[.int .i64 2, .int .i64 R, .int .i64 fr, .int .i64 at_, .int .i64 n] 39)).alloc (.cells #[.int .i64 0, .bool false, .int .i64 0] 41) = W := ⟨_, rfl⟩
  rw [hW] at HS0 e0 e1 e2 e3 e4 f0 f1 f2 m0 m1 m2 m3 m4 b2 b3 a3 r0 r1 r2 r3 r4 ⊢
  clear hW
  go_still_tail 9, hmx
  have HT := HS0.out.call 0 rfl (rm_setR (HS0.out.get 0 rfl) R (false, n))
  dsimp only at HT
  have HT2 := hide HT.drew
  clear HT
  go_wp2_with fail
  have hr := HRES.out
  subst hr
  have hF2 := (((HT2.out).set_ 2 (g := g + 1) (t := 41) rfl 0 (.int .i64 0)).set_ 2 (g := g + 1) (t := 41) rfl 1 (.bool false)).set_ 2 (g := g + 1) (t := 41) rfl 2 (.int .i64 0)
  refine bodyPost_ret (v := .agg #[.int .i64 0, .bool false, .int .i64 0]) (by simp [results, Try.results81, go_sem, f0, f1, f2]) rfl ⟨s.setR R (false, n), rfl, rfl, hF2.sub (by simp), by (have h := HOK.out.k; simpa [RMem.setR, RMem.setO, RMem.newO] using h), by simp [goneD, RMem.setR, RMem.setO, RMem.newO]⟩
set_option maxRecDepth 100000 in
set_option maxHeartbeats 16000000 in
theorem rdo_3 {Bm : Nat} {s : RMem} {w : World} (hP : (rmI Bm s).P w) (ok : ROk s) (R Q : Nat) (hR : R < 8) (hQ : Q < 8) (at_ n : Int) : RDoOk Bm s w ⟨3, R, Q, at_, n⟩ := by
  unfold RDoOk
  obtain ⟨F, hF⟩ : ∃ F, (rmI Bm s).fp = F := ⟨_, rfl⟩
  obtain ⟨g, hg⟩ : ∃ g, w.heap.size = g := ⟨_, rfl⟩
  have hS0 := ((Sep.start hP).blkAt 39 (DoV.cells ⟨3, R, Q, at_, n⟩) (g := g) hg).blkAt 41 #[.int .i64 0, .bool false, .int .i64 0] (g := g + 1) (by simp [hg])
  rw [hF] at hS0 ⊢
  have h8 : s.regs.length = 8 := ok.m.r8
  have hps : (absR s).objs.length = s.obs.length := by simp [absR]
  have hgr := (rm_reg hP h8 0 (by omega)).2.2.2.2
  rw [hg] at hgr
  have q1 : s.gr ≠ g + 1 := by omega
  have q2 : s.gr ≠ g := by omega
  have hmx : Try.prog.follows .mixedOrders = true := by kernel_rfl
  obtain ⟨res, hres⟩ : ∃ r, stepK ⟨3, R, Q, at_, n⟩ (absR s) = r := ⟨_, rfl⟩
  have hst : res = (⟨0, false, 0⟩, ⟨s.regs.set R (rgA s.regs Q), (absR s).objs⟩) := by
    rw [← hres]
    rfl
  rw [hres]
  have HRES := hide hst
  clear hst hres
  unfold DoV.cells at hS0 ⊢
  dsimp only at hS0 ⊢
  obtain ⟨a1, _, a3, _⟩ := hS0.rules 1 (g := g) (t := 39) rfl
  have e0 := (a1 0).trans (show _ = some (.int .i64 3) from rfl)
  have e1 := (a1 1).trans (show _ = some (.int .i64 _) from rfl)
  have e2 := (a1 2).trans (show _ = some (.int .i64 _) from rfl)
  have e3 := (a1 3).trans (show _ = some (.int .i64 _) from rfl)
  have e4 := (a1 4).trans (show _ = some (.int .i64 _) from rfl)
  obtain ⟨b1, b2, b3, _⟩ := hS0.rules 2 (g := g + 1) (t := 41) rfl
  have f0 := (b1 0).trans (show _ = some (.int .i64 0) from rfl)
  have f1 := (b1 1).trans (show _ = some (.bool false) from rfl)
  have f2 := (b1 2).trans (show _ = some (.int .i64 0) from rfl)
  have hP0 : (rmI Bm s).P _ := hS0.get 0 rfl
  obtain ⟨m0, m1, m2, m3, m4⟩ := rm_mem hP0
  obtain ⟨L, hL⟩ : ∃ x, s.regs.length = x := ⟨_, rfl⟩
  rw [hL] at m0
  have hLL : L = 8 := by omega
  obtain ⟨r0, r1, r2, r3, r4⟩ := rm_reg hP0 h8 R hR
  obtain ⟨i0, i1, _, _, _⟩ := rm_reg hP0 h8 Q hQ
  obtain ⟨v, hv⟩ : ∃ v, rgA s.regs (Q : Int) = v := ⟨_, rfl⟩
  have HV := hide hv
  rw [hv] at i0 i1
  obtain ⟨bv, mv⟩ := v
  dsimp only at i0 i1
  clear hv
  have z1 : R < L := by omega
  have z2 : Q < L := by omega
  clear hL hLL
  have HS0 := hide hS0
  have HOK := hide ok
  clear a1 b1 hS0 hP0 hF hP ok hps
  go_enter Try.func81, Try.ntmps81
  go_wp2_with fail
  obtain ⟨W, hW⟩ : ∃ W, (w.alloc (.cells #[.int .i64 3, .int .i64 R, .int .i64 Q, .int .i64 at_, .int .i64 n] 39)).alloc (.cells #[.int .i64 0, .bool false, .int .i64 0] 41) = W := ⟨_, rfl⟩
  rw [hW] at HS0 e0 e1 e2 e3 e4 f0 f1 f2 m0 m1 m2 m3 m4 b2 b3 a3 r0 r1 r2 r3 r4 i0 i1 ⊢
  clear hW
  go_still_tail 14, hmx
  have HT := HS0.out.call 0 rfl (rm_setR (HS0.out.get 0 rfl) R (bv, mv))
  dsimp only at HT
  have HT2 := hide HT.drew
  clear HT
  go_wp2_with fail
  have hr := HRES.out
  rw [HV.out] at hr
  subst hr
  have hF2 := (((HT2.out).set_ 2 (g := g + 1) (t := 41) rfl 0 (.int .i64 0)).set_ 2 (g := g + 1) (t := 41) rfl 1 (.bool false)).set_ 2 (g := g + 1) (t := 41) rfl 2 (.int .i64 0)
  refine bodyPost_ret (v := .agg #[.int .i64 0, .bool false, .int .i64 0]) (by simp [results, Try.results81, go_sem, f0, f1, f2]) rfl ⟨s.setR R (bv, mv), rfl, rfl, hF2.sub (by simp), by (have h := HOK.out.k; simpa [RMem.setR, RMem.setO, RMem.newO] using h), by simp [goneD, RMem.setR, RMem.setO, RMem.newO]⟩
end Go.Proofs.Ytjphckfbbiehdaa
