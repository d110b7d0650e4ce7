/- A machine, plain: what is done. A machine over a memory of whatever kind: what is asked of the memory; a register becomes a value; what is wrong with a field. '==' on two values. -/
import Derived.Test.YtjphckfbbiehdaaSGenPlays7
import Derived.Test.YtjphckfbbiehdaaSGenPlays2
import Derived.Laws.StructEq
set_option linter.unusedSimpArgs false
set_option linter.unusedVariables false
namespace Go.Proofs.Ytjphckfbbiehdaa
structure MSt where
  regs : List Val
  objs : List (List Val)
structure OutV where
  code : Int
  rf : Bool
  n : Int
def OutV.val (o : OutV) : Value := .agg #[.int .i64 o.code, .bool o.rf, .int .i64 o.n]
def rgA (l : List Val) (r : Int) : Val := l.getD r.toNat (false, 0)
def obA (l : List (List Val)) (x : Int) : List Val := l.getD x.toNat []
def fErr (objs : List (List Val)) (v : Val) (at_ : Int) : Int := if v.1 = false then 5 else if at_ < 0 ∨ ((obA objs v.2).length : Int) ≤ at_ then 3 else 0
def stepK (d : DoV) (σ : MSt) : OutV × MSt :=
  if d.k = 1 then (⟨0, false, 0⟩, ⟨σ.regs.set d.to.toNat (true, σ.objs.length), σ.objs ++ [zeroVs d.n.toNat]⟩)
  else if d.k = 2 then (⟨0, false, 0⟩, ⟨σ.regs.set d.to.toNat (false, d.n), σ.objs⟩)
  else if d.k = 3 then (⟨0, false, 0⟩, ⟨σ.regs.set d.to.toNat (rgA σ.regs d.fr), σ.objs⟩)
  else if d.k = 4 then
    if fErr σ.objs (rgA σ.regs d.to) d.at_ ≠ 0 then (⟨fErr σ.objs (rgA σ.regs d.to) d.at_, false, 0⟩, σ)
    else (⟨0, false, 0⟩, ⟨σ.regs, σ.objs.set (rgA σ.regs d.to).2.toNat ((obA σ.objs (rgA σ.regs d.to).2).set d.at_.toNat (rgA σ.regs d.fr))⟩)
  else if d.k = 5 then
    if fErr σ.objs (rgA σ.regs d.fr) d.at_ ≠ 0 then (⟨fErr σ.objs (rgA σ.regs d.fr) d.at_, false, 0⟩, σ)
    else (⟨0, false, 0⟩, ⟨σ.regs.set d.to.toNat ((obA σ.objs (rgA σ.regs d.fr).2).getD d.at_.toNat (false, 0)), σ.objs⟩)
  else if d.k = 6 then (⟨0, false, if rgA σ.regs d.to = rgA σ.regs d.fr then 1 else 0⟩, σ)
  else (⟨0, (rgA σ.regs d.fr).1, if (rgA σ.regs d.fr).1 = true then (obA σ.objs (rgA σ.regs d.fr).2).length else (rgA σ.regs d.fr).2⟩, σ)
def stepM (d : DoV) (σ : MSt) : OutV × MSt := if wrongM d ≠ 0 then (⟨wrongM d, false, 0⟩, σ) else stepK d σ
/-- What a machine's state may be. -/
structure MOk (σ : MSt) : Prop where
  r8 : σ.regs.length = 8
  vr : ValsOk σ.objs.length σ.regs
  vo : ∀ fs ∈ σ.objs, ValsOk σ.objs.length fs
  f4 : ∀ fs ∈ σ.objs, fs.length ≤ 4
theorem valsOk_mono {n m : Nat} {l : List Val} (h : ValsOk n l) (hm : n ≤ m) : ValsOk m l := fun v hv h1 => by have h2 := h v hv h1; exact ⟨h2.1, by have := h2.2; omega⟩
theorem zeroVs_ok (n m : Nat) : ValsOk n (zeroVs m) := fun v hv h1 => by
  obtain ⟨_, rfl⟩ := List.mem_replicate.1 hv
  cases h1
theorem mem_set_ {α : Type} {l : List α} {i : Nat} {a b : α} (h : b ∈ l.set i a) : b ∈ l ∨ b = a := by
  rcases List.mem_or_eq_of_mem_set h with h | h
  · exact .inl h
  · exact .inr h
theorem valsOk_set {n : Nat} {l : List Val} (h : ValsOk n l) (i : Nat) {v : Val} (hv : v.1 = true → 0 ≤ v.2 ∧ v.2 < (n : Int)) : ValsOk n (l.set i v) := fun u hu h1 => by
  rcases mem_set_ hu with h2 | rfl
  · exact h u h2 h1
  · exact hv h1
theorem getD_mem_or {α : Type} (l : List α) (i : Nat) (d : α) : l.getD i d ∈ l ∨ l.getD i d = d := by
  rw [List.getD_eq_getElem?_getD]
  cases h : l[i]? with
  | none => right; rfl
  | some a => left; exact List.mem_of_getElem? h
theorem valsOk_getD {n : Nat} {l : List Val} (h : ValsOk n l) (i : Nat) : (l.getD i (false, 0)).1 = true → 0 ≤ (l.getD i (false, 0)).2 ∧ (l.getD i (false, 0)).2 < (n : Int) := fun h1 => by
  rcases getD_mem_or l i (false, 0) with h2 | h2
  · exact h _ h2 h1
  · rw [h2] at h1; cases h1
theorem MOk.ob {σ : MSt} (h : MOk σ) (x : Int) : ValsOk σ.objs.length (obA σ.objs x) ∧ (obA σ.objs x).length ≤ 4 := by
  unfold obA
  rcases getD_mem_or σ.objs x.toNat [] with h2 | h2
  · exact ⟨h.vo _ h2, h.f4 _ h2⟩
  · rw [h2]; exact ⟨fun v hv => (by cases hv), by simp⟩
theorem MOk.step {σ : MSt} (h : MOk σ) (d : DoV) : MOk (stepM d σ).2 ∧ σ.objs.length ≤ (stepM d σ).2.objs.length ∧ (stepM d σ).2.objs.length ≤ σ.objs.length + 1 := by
  unfold stepM
  by_cases hw : wrongM d ≠ 0
  · rw [if_pos hw]; exact ⟨h, Nat.le_refl _, Nat.le_succ _⟩
  rw [if_neg hw]
  unfold stepK
  have hr := fun r => valsOk_getD h.vr r
  have hwn : d.k = 1 → d.n ≤ 4 := fun hk => by
    have hw2 : wrongM d = 0 := by omega
    unfold wrongM at hw2
    rw [if_neg (by omega)] at hw2
    split at hw2
    · omega
    · split at hw2
      · omega
      · rename_i h3
        omega
  split
  · rename_i hk
    refine ⟨⟨by simp [h.r8], ?_, ?_, ?_⟩, by simp, by simp⟩
    · dsimp only
      rw [List.length_append, List.length_singleton]
      exact valsOk_set (valsOk_mono h.vr (by omega)) _ (fun _ => by dsimp only; omega)
    · dsimp only
      rw [List.length_append, List.length_singleton]
      intro fs hfs
      rcases List.mem_append.1 hfs with h1 | h1
      · exact valsOk_mono (h.vo fs h1) (by omega)
      · rw [List.mem_singleton.1 h1]; exact zeroVs_ok _ _
    · intro fs hfs
      rcases List.mem_append.1 hfs with h1 | h1
      · exact h.f4 fs h1
      · rw [List.mem_singleton.1 h1]
        have := hwn hk
        simp [zeroVs]; omega
  split
  · exact ⟨⟨by simp [h.r8], valsOk_set h.vr _ (fun h => by cases h), h.vo, h.f4⟩, Nat.le_refl _, Nat.le_succ _⟩
  split
  · exact ⟨⟨by simp [h.r8], valsOk_set h.vr _ (hr _), h.vo, h.f4⟩, Nat.le_refl _, Nat.le_succ _⟩
  split
  · split
    · exact ⟨h, Nat.le_refl _, Nat.le_succ _⟩
    · refine ⟨⟨h.r8, by simpa using h.vr, ?_, ?_⟩, by simp, by simp⟩
      · intro fs hfs
        rw [List.length_set]
        rcases mem_set_ hfs with h1 | rfl
        · exact h.vo fs h1
        · exact valsOk_set (h.ob _).1 _ (hr _)
      · intro fs hfs
        rcases mem_set_ hfs with h1 | rfl
        · exact h.f4 fs h1
        · rw [List.length_set]; exact (h.ob _).2
  split
  · split
    · exact ⟨h, Nat.le_refl _, Nat.le_succ _⟩
    · exact ⟨⟨by simp [h.r8], valsOk_set h.vr _ (valsOk_getD (h.ob _).1 _), h.vo, h.f4⟩, Nat.le_refl _, Nat.le_succ _⟩
  split
  · exact ⟨h, Nat.le_refl _, Nat.le_succ _⟩
  · exact ⟨h, Nat.le_refl _, Nat.le_succ _⟩
theorem wrongM_rng {d : DoV} (h : wrongM d = 0) : 1 ≤ d.k ∧ d.k ≤ 7 := by
  unfold wrongM at h
  split at h
  · omega
  · omega
theorem wrongM_to {d : DoV} (h : wrongM d = 0) (hk : d.k ≠ 7) : 0 ≤ d.to ∧ d.to < 8 := by
  refine badR_no ?_
  unfold wrongM at h
  split at h
  · omega
  · split at h
    · omega
    · rename_i h2
      cases hb : badR d.to
      · rfl
      · exact absurd (.inl ⟨hk, hb⟩) h2
theorem wrongM_fr {d : DoV} (h : wrongM d = 0) (hk : d.k ≠ 1) (hk2 : d.k ≠ 2) : 0 ≤ d.fr ∧ d.fr < 8 := by
  refine badR_no ?_
  unfold wrongM at h
  split at h
  · omega
  · split at h
    · omega
    · rename_i h2
      cases hb : badR d.fr
      · rfl
      · exact absurd (.inr ⟨hk, hk2, hb⟩) h2
theorem wrongM_n {d : DoV} (h : wrongM d = 0) (hk : d.k = 1) : 0 ≤ d.n ∧ d.n ≤ 4 := by
  unfold wrongM at h
  split at h
  · omega
  · split at h
    · omega
    · split at h
      · omega
      · rename_i h3; omega
end Go.Proofs.Ytjphckfbbiehdaa

namespace Go.Proofs.Ytjphckfbbiehdaa
open Go.RowKit
/-- A memory as a machine sees it: what it is (plain), what it has in memory beside the machine's own block, and its methods. -/
structure MemK where
  A : Type
  St : Type
  abs : St → A
  Bm : Nat
  T : Nat
  p : Value
  regs : A → List Val
  fld : A → Nat → Option (List Val)
  rest : St → List Item
  ok : A → Prop
  ok1 : A → Prop
  hold : A → Nat → Val → A
  setr : A → Nat → Val → A
  new_ : A → Nat → A × Int × Int
  put : A → Nat → Nat → Val → A
  fH : Nat
  fN : Nat
  fL : Nat
  fG : Nat
  fP : Nat
  rL : St → Value
  rG : St → Value
  rP : St → Value
theorem kenter_of {c : FuncId} {fn : Func} (hf : Try.prog.funcs[c]? = some fn) (hn : (fn.name == "runtime.NumGoroutine") = false) (hb : fn.body.isNone = false) (args : Array Value) (w : World) : (callFunc c args).run Try.prog w = .ok (.enter c args) w := by
  unfold callFunc
  simp [go_sem, hf]
  rw [if_neg (by simpa using hn), if_neg (by intro h; rw [h] at hb; cases hb)]
set_option maxRecDepth 100000 in
def MemK.items (K : MemK) (s : K.St) : List Item := blkI K.Bm 113 (mcCells (K.regs (K.abs s)) (.iface K.T K.p)) :: K.rest s
def MemK.item (K : MemK) (s : K.St) : Item := allI (K.items s)
def MemK.vok (K : MemK) (a : K.A) (v : Val) : Prop := v.1 = true → ∃ (i : Nat) (fs : List Val), v.2 = (i : Int) ∧ K.fld a i = some fs
/-- What is asked of it. -/
structure MemK.Ok (K : MemK) : Prop where
  r8 : ∀ a, K.ok a → (K.regs a).length = 8
  vr : ∀ a v, K.ok a → v ∈ K.regs a → K.vok a v
  vf : ∀ a i fs v, K.ok a → K.fld a i = some fs → v ∈ fs → K.vok a v
  f4 : ∀ a i fs, K.ok a → K.fld a i = some fs → fs.length ≤ 4
  lim : ∀ a i fs, K.ok a → K.fld a i = some fs → i ≤ 1000
  set_ : ∀ s r v, ∃ s', K.abs s' = K.setr (K.abs s) r v ∧ K.rest s' = K.rest s
  regs_set : ∀ a r v, K.regs (K.setr a r v) = (K.regs a).set r v
  regs_hold : ∀ a r v, K.regs (K.hold a r v) = K.regs a
  regs_put : ∀ a i k v, K.regs (K.put a i k v) = K.regs a
  eH : ∀ (args : Array Value) (w : World), (callFunc K.fH args).run Try.prog w = .ok (.enter K.fH args) w
  eN : ∀ (args : Array Value) (w : World), (callFunc K.fN args).run Try.prog w = .ok (.enter K.fN args) w
  eL : ∀ (args : Array Value) (w : World), (callFunc K.fL args).run Try.prog w = .ok (.enter K.fL args) w
  eG : ∀ (args : Array Value) (w : World), (callFunc K.fG args).run Try.prog w = .ok (.enter K.fG args) w
  eP : ∀ (args : Array Value) (w : World), (callFunc K.fP args).run Try.prog w = .ok (.enter K.fP args) w
  mH : ∀ w, (method 455 K.T K.p "Hold").run Try.prog w = .ok (K.fH, K.p) w
  mN : ∀ w, (method 455 K.T K.p "New").run Try.prog w = .ok (K.fN, K.p) w
  mL : ∀ s w, (K.item s).P w → (method 455 K.T K.p "Len").run Try.prog w = .ok (K.fL, K.rL s) w
  mG : ∀ s w, (K.item s).P w → (method 455 K.T K.p "Get").run Try.prog w = .ok (K.fG, K.rG s) w
  mP : ∀ s w, (K.item s).P w → (method 455 K.T K.p "Put").run Try.prog w = .ok (K.fP, K.rP s) w
  cH : ∀ s w (r : Nat) v, (K.item s).P w → K.ok (K.abs s) → r < 8 → K.vok (K.abs s) v → Calls Try.prog K.fH #[K.p, .int .i64 (r : Int), .agg #[.bool v.1, .int .i64 v.2]] w fun e w' => (∃ u, e = .returned u) ∧ ∃ s', K.abs s' = K.hold (K.abs s) r v ∧ Sep (K.item s).fp w w' [K.item s']
  cN : ∀ s w (n : Nat), (K.item s).P w → K.ok (K.abs s) → n ≤ 4 → Calls Try.prog K.fN #[K.p, .int .i64 (n : Int)] w fun e w' => e = .returned (.tuple #[.int .i64 (K.new_ (K.abs s) n).2.1, .int .i64 (K.new_ (K.abs s) n).2.2]) ∧ ∃ s', K.abs s' = (K.new_ (K.abs s) n).1 ∧ Sep (K.item s).fp w w' [K.item s']
  ok_of : ∀ a, K.ok1 a → K.ok a
  okN : ∀ a (n : Nat), K.ok1 a → n ≤ 4 → K.ok (K.new_ a n).1 ∧ ((K.new_ a n).2.2 = 0 → K.vok (K.new_ a n).1 (true, (K.new_ a n).2.1))
  cL : ∀ s w (i : Nat) fs, (K.item s).P w → K.ok (K.abs s) → K.fld (K.abs s) i = some fs → Calls Try.prog K.fL #[K.rL s, .int .i64 (i : Int)] w fun e w' => e = .returned (.int .i64 (fs.length : Int)) ∧ w' = w
  cG : ∀ s w (i k : Nat) fs (hk : k < fs.length), (K.item s).P w → K.ok (K.abs s) → K.fld (K.abs s) i = some fs → Calls Try.prog K.fG #[K.rG s, .int .i64 (i : Int), .int .i64 (k : Int)] w fun e w' => e = .returned (.agg #[.bool fs[k].1, .int .i64 fs[k].2]) ∧ Below w.heap.size w w'
  cP : ∀ s w (i k : Nat) fs v, k < fs.length → (K.item s).P w → K.ok (K.abs s) → K.fld (K.abs s) i = some fs → K.vok (K.abs s) v → Calls Try.prog K.fP #[K.rP s, .int .i64 (i : Int), .int .i64 (k : Int), .agg #[.bool v.1, .int .i64 v.2]] w fun e w' => (∃ u, e = .returned u) ∧ ∃ s', K.abs s' = K.put (K.abs s) i k v ∧ Sep (K.item s).fp w w' [K.item s']
/-- The machine's cells. -/
theorem MemK.cells (K : MemK) {s : K.St} {w : World} (hP : (K.item s).P w) (h8 : (K.regs (K.abs s)).length = 8) (r : Nat) (hr : r < 8) :
    w.cell? ⟨K.Bm, r * 2, none⟩ = some (.bool (rgA (K.regs (K.abs s)) r).1) ∧ w.cell? ⟨K.Bm, r * 2 + 1, none⟩ = some (.int .i64 (rgA (K.regs (K.abs s)) r).2) ∧ w.cell? ⟨K.Bm, 16, none⟩ = some (.iface K.T K.p) ∧ K.Bm < w.heap.size := by
  have hB : Blk w K.Bm 113 (mcCells (K.regs (K.abs s)) (.iface K.T K.p)) := hP.1 (blkI K.Bm 113 (mcCells (K.regs (K.abs s)) (.iface K.T K.p))) (by simp [MemK.items])
  obtain ⟨c1, c2, c3⟩ := hB.rules
  have hrl : r < (K.regs (K.abs s)).length := by omega
  obtain ⟨m1, m2⟩ := mc_reg (f := .iface K.T K.p) hrl
  have hg : rgA (K.regs (K.abs s)) (r : Int) = (K.regs (K.abs s))[r] := by unfold rgA; rw [show ((r : Int)).toNat = r from by omega, List.getD_eq_getElem?_getD, List.getElem?_eq_getElem hrl]; rfl
  rw [hg]
  exact ⟨(c1 _).trans m1, (c1 _).trans m2, (c1 16).trans (mc_if h8), c3⟩
theorem MemK.frozen (K : MemK) {s : K.St} {w : World} (hP : (K.item s).P w) (j : Nat) : w.frozen? ⟨K.Bm, j, none⟩ = false := by
  have hB : Blk w K.Bm 113 (mcCells (K.regs (K.abs s)) (.iface K.T K.p)) := hP.1 (blkI K.Bm 113 (mcCells (K.regs (K.abs s)) (.iface K.T K.p))) (by simp [MemK.items])
  exact hB.rules.2.1 j
set_option maxRecDepth 100000 in
set_option maxHeartbeats 8000000 in
theorem kset_any (K : MemK) (h : K.Ok) {s : K.St} {w : World} (hP : (K.item s).P w) (ok : K.ok (K.abs s)) {r : Nat} (v : Val) (hr : r < 8) (hv : K.vok (K.abs s) v) :
    Calls Try.prog 108 #[.pointer (some ⟨K.Bm, 0, none⟩), .int .i64 r, .agg #[.bool v.1, .int .i64 v.2]] w fun e w' => (∃ u, e = .returned u) ∧ ∃ s', K.abs s' = K.setr (K.hold (K.abs s) r v) r v ∧ Sep (K.item s).fp w w' [K.item s'] := by
  obtain ⟨F, hF⟩ : ∃ F, (K.item s).fp = F := ⟨_, rfl⟩
  obtain ⟨g, hg⟩ : ∃ g, w.heap.size = g := ⟨_, rfl⟩
  have hS0 : Sep F w (w.alloc (.cells #[.bool v.1, .int .i64 v.2] 107)) [K.item s, blkI g 107 #[.bool v.1, .int .i64 v.2]] := by
    rw [← hF]
    exact (Sep.start hP).blkAt 107 #[.bool v.1, .int .i64 v.2] (g := g) hg
  rw [hF]
  have h8 := h.r8 _ ok
  obtain ⟨_, _, c5, c6⟩ := K.cells (hS0.get 0 rfl) h8 r hr
  obtain ⟨x1, x2, x3, _⟩ := hS0.rules 1 (g := g) (t := 107) rfl
  have x5 := (x1 0).trans (show _ = some (.bool v.1) from rfl)
  have x6 := (x1 1).trans (show _ = some (.int .i64 v.2) from rfl)
  have hne1 : g ≠ K.Bm := fun e => hS0.other (a := 1) (b := 0) rfl rfl (by omega) g rfl ⟨_, by unfold MemK.items; exact List.mem_cons_self .., e⟩
  have hne2 : K.Bm ≠ g := fun e => hne1 e.symm
  have HST := hide (fun (X : World) (s1 : K.St) (h8' : (K.regs (K.abs s1)).length = 8) (hX : Sep F w X [K.item s1, blkI g 107 #[.bool v.1, .int .i64 v.2]]) =>
    (show ∃ s', K.abs s' = K.setr (K.abs s1) r v ∧ Sep F w ((X.setCell ⟨K.Bm, r * 2, none⟩ (.bool v.1)).setCell ⟨K.Bm, r * 2 + 1, none⟩ (.int .i64 v.2)) [K.item s'] from by
      obtain ⟨s', e1, e2⟩ := h.set_ s1 r v
      refine ⟨s', e1, ?_⟩
      have h1 : Sep F w X (K.items s1 ++ [blkI g 107 #[.bool v.1, .int .i64 v.2]]) := hX.split
      have h2 := ((h1.set_ 0 (g := K.Bm) (t := 113) rfl (r * 2) (.bool v.1)).set_ 0 (g := K.Bm) (t := 113) rfl (r * 2 + 1) (.int .i64 v.2))
      rw [mc_set (by omega) v] at h2
      refine Sep.fold (l := K.items s') ?_
      have h3 : K.items s' = blkI K.Bm 113 (mcCells ((K.regs (K.abs s1)).set r v) (.iface K.T K.p)) :: K.rest s1 := by unfold MemK.items; rw [e1, e2, h.regs_set]
      rw [h3]
      exact h2.sub (List.sublist_append_left (_ :: K.rest s1) [_])))
  have HRU := hide (fun (X : World) (s1 : K.St) (h8' : (K.regs (K.abs s1)).length = 8) (hX : Sep F w X [K.item s1, blkI g 107 #[.bool v.1, .int .i64 v.2]]) =>
    (⟨((hX.rules 1 (g := g) (t := 107) rfl).1 0).trans rfl, ((hX.rules 1 (g := g) (t := 107) rfl).1 1).trans rfl, (K.cells (hX.get 0 rfl) h8' r hr).1, (K.cells (hX.get 0 rfl) h8' r hr).2.1, K.frozen (hX.get 0 rfl) (r * 2), K.frozen (hX.get 0 rfl) (r * 2 + 1), (K.cells (hX.get 0 rfl) h8' r hr).2.2.2, (K.cells (hX.get 0 rfl) h8' r hr).2.2.1⟩ :
      X.cell? ⟨g, 0, none⟩ = some (.bool v.1) ∧ X.cell? ⟨g, 1, none⟩ = some (.int .i64 v.2) ∧ X.cell? ⟨K.Bm, r * 2, none⟩ = some (.bool (rgA (K.regs (K.abs s1)) r).1) ∧ X.cell? ⟨K.Bm, r * 2 + 1, none⟩ = some (.int .i64 (rgA (K.regs (K.abs s1)) r).2) ∧ X.frozen? ⟨K.Bm, r * 2, none⟩ = false ∧ X.frozen? ⟨K.Bm, r * 2 + 1, none⟩ = false ∧ K.Bm < X.heap.size ∧ X.cell? ⟨K.Bm, 16, none⟩ = some (.iface K.T K.p)))
  have CH := hide (fun (W : World) (hW : (K.item s).P W) => h.cH s W r v hW ok hr hv)
  have HRH := hide (h.regs_hold (K.abs s) r v)
  have H8 := hide h8
  have HS0 := hide hS0
  have hinv := h.mH
  have hent := h.eH
  obtain ⟨W, hW⟩ : ∃ W, w.alloc (.cells #[.bool v.1, .int .i64 v.2] 107) = W := ⟨_, rfl⟩
  rw [hW] at HS0 c5 c6 x2 x3 x5 x6
  have HW := hide hW
  have HGG := hide hg
  have hr2 : r < 8 := hr
  have hr5 : (0 : Int) ≤ (r : Int) := by omega
  have hr6 : (r : Int) < 8 := by omega
  have hr7 : decide ((r : Int) < 0) = false := by simp
  have hr8 : decide ((8 : Int) ≤ (r : Int)) = false := by simp; omega
  obtain ⟨bv, mv⟩ := v
  dsimp only at x5 x6 HST HRU HW HS0 CH HRH ⊢
  obtain ⟨Bm, hBm⟩ : ∃ x, K.Bm = x := ⟨_, rfl⟩
  obtain ⟨fH, hfH⟩ : ∃ x, K.fH = x := ⟨_, rfl⟩
  obtain ⟨KT, hKT⟩ : ∃ x, K.T = x := ⟨_, rfl⟩
  obtain ⟨Kp, hKp⟩ : ∃ x, K.p = x := ⟨_, rfl⟩
  simp only [hBm, hfH, hKT, hKp] at c5 c6 HRU HST CH hinv hent hne1 hne2 ⊢
  clear hS0 hP hF hW hg x1 h8 hv ok h hBm hfH hKT hKp
  go_enter Try.func108, Try.ntmps108
  go_wp2_with fail
  rw [HW.out, HGG.out]
  have CH2 := hide (CH.out W.drew (HS0.out.drew.get 0 rfl))
  go_region_held3 (fun w' => w'.cell? ⟨Bm, 16, none⟩ = some (.iface KT Kp) ∧ w'.cell? ⟨g, 0, none⟩ = some (.bool bv) ∧ w'.cell? ⟨g, 1, none⟩ = some (.int .i64 mv)) (go_keep)
    (((with_reducible refine CH2.out.mono ?_); rintro e w5 ⟨⟨u, rfl⟩, s1, hab1, hP5⟩; have hS5 := HS0.out.drew.call 0 rfl hP5; have H81 := hide (show (K.regs (K.abs s1)).length = 8 by rw [hab1, HRH.out]; exact H8.out); obtain ⟨k1, k2, k3, k4, k5, k6, k7, k8⟩ := HRU.out _ s1 H81.out hS5; have HS5 := hide hS5; have HAB := hide hab1; clear hP5 hS5 hab1))
  all_goals
    go_wp2_with fail
    go_region_held3 (fun w' => w'.cell? ⟨g, 0, none⟩ = some (.bool bv) ∧ w'.cell? ⟨g, 1, none⟩ = some (.int .i64 mv)) (go_keep) (fail)
    all_goals
      go_end0
      obtain ⟨s2, hab2, hP6⟩ := HST.out _ s1 H81.out HS5.out.drew
      exact ⟨⟨_, rfl⟩, s2, by rw [hab2, HAB.out], hP6⟩
def MemK.len (K : MemK) (a : K.A) (x : Int) : Int := (((K.fld a x.toNat).getD []).length : Int)
def MemK.fErr (K : MemK) (a : K.A) (v : Val) (at_ : Int) : Int := if v.1 = false then 5 else if at_ < 0 ∨ K.len a v.2 ≤ at_ then 3 else 0
set_option maxRecDepth 100000 in
set_option maxHeartbeats 8000000 in
theorem kfield_any (K : MemK) (h : K.Ok) {s : K.St} {w : World} (hP : (K.item s).P w) (ok : K.ok (K.abs s)) (v : Val) (at_ : Int) (hv : K.vok (K.abs s) v) :
    Calls Try.prog 109 #[.pointer (some ⟨K.Bm, 0, none⟩), .agg #[.bool v.1, .int .i64 v.2], .int .i64 at_] w fun e w' => e = .returned (.int .i64 (K.fErr (K.abs s) v at_)) ∧ Below w.heap.size w w' := by
  have hB0 : Below w.heap.size w (w.alloc (.cells #[.bool v.1, .int .i64 v.2] 107)) := (Below.refl _ w).alloc (Nat.le_refl _) _
  have hP1 : ∀ k, (K.item s).P ((w.alloc (.cells #[.bool v.1, .int .i64 v.2] 107)).drewN k) := fun k => (((Sep.start hP).below hB0).drewN k).get 0 rfl
  obtain ⟨_, _, c5, c6⟩ := K.cells (hP1 0) (h.r8 _ ok) 0 (by omega)
  replace c5 : (w.alloc (.cells #[.bool v.1, .int .i64 v.2] 107)).cell? ⟨K.Bm, 16, none⟩ = some (.iface K.T K.p) := c5
  replace c6 : K.Bm < (w.alloc (.cells #[.bool v.1, .int .i64 v.2] 107)).heap.size := c6
  unfold MemK.fErr
  obtain ⟨bv, m⟩ := v
  dsimp only at hv ⊢
  have HB0 := hide hB0
  cases bv with
  | false =>
    rw [if_pos rfl]
    obtain ⟨Bm, hBm⟩ : ∃ x, K.Bm = x := ⟨_, rfl⟩
    rw [hBm] at c5 c6 ⊢
    clear hB0 hP1 h hP ok hv hBm
    go_enter Try.func109, Try.ntmps109
    go_wp2_with fail
    go_ret
    exact ⟨rfl, HB0.out⟩
  | true =>
    rw [if_neg (by simp)]
    obtain ⟨z, fs, hz, hfs⟩ := hv rfl
    dsimp only at hz
    subst hz
    have hgd : K.len (K.abs s) (z : Int) = (fs.length : Int) := by unfold MemK.len; rw [show ((z : Int)).toNat = z from by omega, hfs]; rfl
    rw [hgd]
    have hz1 := h.lim _ _ _ ok hfs
    have hq4 := h.f4 _ _ _ ok hfs
    have CL := fun k => h.cL s _ z fs (hP1 k) ok hfs
    have hent := h.eL
    have hme : ∀ k, (method 455 K.T K.p "Len").run Try.prog ((w.alloc (.cells #[.bool true, .int .i64 z] 107)).drewN k) = .ok (K.fL, K.rL s) ((w.alloc (.cells #[.bool true, .int .i64 z] 107)).drewN k) := fun k => h.mL s _ (hP1 k)
    obtain ⟨q, hq⟩ : ∃ q, fs.length = q := ⟨_, rfl⟩
    simp only [hq] at CL
    rw [hq] at hq4 ⊢
    obtain ⟨Bm, hBm⟩ : ∃ x, K.Bm = x := ⟨_, rfl⟩
    obtain ⟨fL, hfL⟩ : ∃ x, K.fL = x := ⟨_, rfl⟩
    obtain ⟨KT, hKT⟩ : ∃ x, K.T = x := ⟨_, rfl⟩
    obtain ⟨Kp, hKp⟩ : ∃ x, K.p = x := ⟨_, rfl⟩
    obtain ⟨rL, hrL⟩ : ∃ x, K.rL s = x := ⟨_, rfl⟩
    simp only [hBm, hfL, hKT, hKp, hrL] at c5 c6 CL hme hent ⊢
    replace CL := hide (fun k => Calls.quiet_of_same (v := .int .i64 q) (CL k))
    clear hgd hB0 hP1 h hP ok hv hBm hfL hKT hKp hrL hq hfs
    by_cases h0 : at_ < 0
    · have t1 : decide (at_ < 0) = true := by simp [h0]
      rw [if_pos (.inl h0)]
      go_enter Try.func109, Try.ntmps109
      go_wp2_with fail
      go_quiet (fail)
      go_wp2_with fail
      go_ret
      exact ⟨rfl, below_drewN HB0.out _⟩
    · have t1 : decide (at_ < 0) = false := by simp only [h0, decide_false]
      by_cases h1 : (q : Int) ≤ at_
      · have t2 : decide ((q : Int) ≤ at_) = true := by simp [h1]
        rw [if_pos (.inr h1)]
        go_enter Try.func109, Try.ntmps109
        go_wp2_with fail
        go_quiet (with_reducible exact CL.out _)
        go_wp2_with fail
        go_ret
        exact ⟨rfl, below_drewN HB0.out _⟩
      · have t2 : decide ((q : Int) ≤ at_) = false := by simp only [h1, decide_false]
        rw [if_neg (fun h => h.elim h0 h1)]
        go_enter Try.func109, Try.ntmps109
        go_wp2_with fail
        go_quiet (with_reducible exact CL.out _)
        go_wp2_with fail
        go_ret
        exact ⟨rfl, below_drewN HB0.out _⟩
end Go.Proofs.Ytjphckfbbiehdaa

namespace Go.Proofs.Ytjphckfbbiehdaa
open Go.RowKit
theorem eq_val (w : World) (a b : Bool) (m n : Int) : (binOp .eql 107 (.agg #[.bool a, .int .i64 m]) (.agg #[.bool b, .int .i64 n])).run Try.prog w = .ok (.bool (decide (((a, m) : Val) = (b, n)))) w := by
  have h1 : Try.prog.underlying 107 = some (.struct (Try.prog.fieldsOf 107)) := by kernel_rfl
  have h2 : Try.prog.stoodInHeld 107 = false := by kernel_rfl
  have h3 : Try.prog.underlying 4 = some .bool := by kernel_rfl
  have h4 : Try.prog.underlying 2 = some (.int .i64) := by kernel_rfl
  rw [run_eql_struct, run_equalIn_agg _ _ _ _ _ h1 h2]
  have h5 : (Try.prog.fieldsOf 107).toList = [(Try.prog.fieldsOf 107).toList[0]!, (Try.prog.fieldsOf 107).toList[1]!] := by kernel_rfl
  have n1 : ((Try.prog.fieldsOf 107).toList[0]!).name = "Ref" := by kernel_rfl
  have n2 : ((Try.prog.fieldsOf 107).toList[0]!).type = 4 := by kernel_rfl
  have n3 : ((Try.prog.fieldsOf 107).toList[0]!).offset = 0 := by kernel_rfl
  have n4 : ((Try.prog.fieldsOf 107).toList[1]!).name = "N" := by kernel_rfl
  have n5 : ((Try.prog.fieldsOf 107).toList[1]!).type = 2 := by kernel_rfl
  have n6 : ((Try.prog.fieldsOf 107).toList[1]!).offset = 1 := by kernel_rfl
  rw [h5]
  obtain ⟨f1, hf1⟩ : ∃ f, (Try.prog.fieldsOf 107).toList[0]! = f := ⟨_, rfl⟩
  obtain ⟨f2, hf2⟩ : ∃ f, (Try.prog.fieldsOf 107).toList[1]! = f := ⟨_, rfl⟩
  rw [hf1] at n1 n2 n3 ⊢
  rw [hf2] at n4 n5 n6 ⊢
  have p1 : ∀ x y, (part 4 #[x, y] 0).run Try.prog w = .ok x w := fun x y => by kernel_rfl
  have p2 : ∀ x y, (part 2 #[x, y] 1).run Try.prog w = .ok y w := fun x y => by kernel_rfl
  simp only [Op.eqFields, n1, n2, n3, n4, n5, n6, ne_eq, Sem.run_ite, Sem.run_bind, p1, p2, Result.andThen_ok, run_equalIn_bool' w _ _ _ _ h3, run_equalIn_int w _ _ _ _ _ _ h4]
  cases a <;> cases b <;> simp <;> by_cases h : m = n <;> simp [h]
theorem guard_val (w : World) (x y : Operand) (a b : Bool) (m n : Int) : (eqGuard .eql 107 x y (.agg #[.bool a, .int .i64 m]) (.agg #[.bool b, .int .i64 n])).run Try.prog w = .ok () w :=
  run_eqGuard_agg w .eql _ x y _ _ (by kernel_rfl)
end Go.Proofs.Ytjphckfbbiehdaa
