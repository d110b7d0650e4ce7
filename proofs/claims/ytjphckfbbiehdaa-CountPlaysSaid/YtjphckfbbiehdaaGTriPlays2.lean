/- A machine over a memory of whatever kind: what is asked of the memory; a register becomes a value; what is wrong with a field. A machine over a memory of whatever kind: what it does. A machine over a memory of whatever kind: what it does, on. -/
import Derived.Test.YtjphckfbbiehdaaGIdealPlays6
import Derived.Test.YtjphckfbbiehdaaGIdealPlays7
set_option linter.unusedSimpArgs false
set_option linter.unusedVariables false
namespace Go.Proofs.Ytjphckfbbiehdaa
open Go.RowKit

/-- A memory as a machine sees it: what it is (plain), what it has in memory beside the machine's own block, and its methods. -/
structure MemK where
  A : Type
  St : Type
  abs : St → A
  Bm : Nat
  T : Nat
  p : Value
  regs : A → List Val
  fld : A → Nat → Option (List Val)
  rest : St → List Item
  ok : A → Prop
  ok1 : A → Prop
  hold : A → Nat → Val → A
  setr : A → Nat → Val → A
  new_ : A → Nat → A × Int × Int
  put : A → Nat → Nat → Val → A
  fH : Nat
  fN : Nat
  fL : Nat
  fG : Nat
  fP : Nat
  rL : St → Value
  rG : St → Value
  rP : St → Value
theorem kenter_of {c : FuncId} {fn : Func} (hf : Try.prog.funcs[c]? = some fn) (hn : (fn.name == "runtime.NumGoroutine") = false) (hb : fn.body.isNone = false) (args : Array Value) (w : World) : (callFunc c args).run Try.prog w = .ok (.enter c args) w := by
  unfold callFunc
  simp [go_sem, hf]
  rw [if_neg (by simpa using hn), if_neg (by intro h; rw [h] at hb; cases hb)]
set_option maxRecDepth 100000 in
def MemK.items (K : MemK) (s : K.St) : List Item := blkI K.Bm 113 (mcCells (K.regs (K.abs s)) (.iface K.T K.p)) :: K.rest s
def MemK.item (K : MemK) (s : K.St) : Item := allI (K.items s)
def MemK.vok (K : MemK) (a : K.A) (v : Val) : Prop := v.1 = true → ∃ (i : Nat) (fs : List Val), v.2 = (i : Int) ∧ K.fld a i = some fs
/-- What is asked of it. -/
structure MemK.Ok (K : MemK) : Prop where
  r8 : ∀ a, K.ok a → (K.regs a).length = 8
  vr : ∀ a v, K.ok a → v ∈ K.regs a → K.vok a v
  vf : ∀ a i fs v, K.ok a → K.fld a i = some fs → v ∈ fs → K.vok a v
  f4 : ∀ a i fs, K.ok a → K.fld a i = some fs → fs.length ≤ 4
  lim : ∀ a i fs, K.ok a → K.fld a i = some fs → i ≤ 1000
  set_ : ∀ s r v, ∃ s', K.abs s' = K.setr (K.abs s) r v ∧ K.rest s' = K.rest s
  regs_set : ∀ a r v, K.regs (K.setr a r v) = (K.regs a).set r v
  regs_hold : ∀ a r v, K.regs (K.hold a r v) = K.regs a
  regs_put : ∀ a i k v, K.regs (K.put a i k v) = K.regs a
  eH : ∀ (args : Array Value) (w : World), (callFunc K.fH args).run Try.prog w = .ok (.enter K.fH args) w
  eN : ∀ (args : Array Value) (w : World), (callFunc K.fN args).run Try.prog w = .ok (.enter K.fN args) w
  eL : ∀ (args : Array Value) (w : World), (callFunc K.fL args).run Try.prog w = .ok (.enter K.fL args) w
  eG : ∀ (args : Array Value) (w : World), (callFunc K.fG args).run Try.prog w = .ok (.enter K.fG args) w
  eP : ∀ (args : Array Value) (w : World), (callFunc K.fP args).run Try.prog w = .ok (.enter K.fP args) w
  mH : ∀ w, (method 455 K.T K.p "Hold").run Try.prog w = .ok (K.fH, K.p) w
  mN : ∀ w, (method 455 K.T K.p "New").run Try.prog w = .ok (K.fN, K.p) w
  mL : ∀ s w, (K.item s).P w → (method 455 K.T K.p "Len").run Try.prog w = .ok (K.fL, K.rL s) w
  mG : ∀ s w, (K.item s).P w → (method 455 K.T K.p "Get").run Try.prog w = .ok (K.fG, K.rG s) w
  mP : ∀ s w, (K.item s).P w → (method 455 K.T K.p "Put").run Try.prog w = .ok (K.fP, K.rP s) w
  cH : ∀ s w (r : Nat) v, (K.item s).P w → K.ok (K.abs s) → r < 8 → K.vok (K.abs s) v → Calls Try.prog K.fH #[K.p, .int .i64 (r : Int), .agg #[.bool v.1, .int .i64 v.2]] w fun e w' => (∃ u, e = .returned u) ∧ ∃ s', K.abs s' = K.hold (K.abs s) r v ∧ Sep (K.item s).fp w w' [K.item s']
  cN : ∀ s w (n : Nat), (K.item s).P w → K.ok (K.abs s) → n ≤ 4 → Calls Try.prog K.fN #[K.p, .int .i64 (n : Int)] w fun e w' => e = .returned (.tuple #[.int .i64 (K.new_ (K.abs s) n).2.1, .int .i64 (K.new_ (K.abs s) n).2.2]) ∧ ∃ s', K.abs s' = (K.new_ (K.abs s) n).1 ∧ Sep (K.item s).fp w w' [K.item s']
  ok_of : ∀ a, K.ok1 a → K.ok a
  okN : ∀ a (n : Nat), K.ok1 a → n ≤ 4 → K.ok (K.new_ a n).1 ∧ ((K.new_ a n).2.2 = 0 → K.vok (K.new_ a n).1 (true, (K.new_ a n).2.1))
  cL : ∀ s w (i : Nat) fs, (K.item s).P w → K.ok (K.abs s) → K.fld (K.abs s) i = some fs → Calls Try.prog K.fL #[K.rL s, .int .i64 (i : Int)] w fun e w' => e = .returned (.int .i64 (fs.length : Int)) ∧ w' = w
  cG : ∀ s w (i k : Nat) fs (hk : k < fs.length), (K.item s).P w → K.ok (K.abs s) → K.fld (K.abs s) i = some fs → Calls Try.prog K.fG #[K.rG s, .int .i64 (i : Int), .int .i64 (k : Int)] w fun e w' => e = .returned (.agg #[.bool fs[k].1, .int .i64 fs[k].2]) ∧ Below w.heap.size w w'
  cP : ∀ s w (i k : Nat) fs v, k < fs.length → (K.item s).P w → K.ok (K.abs s) → K.fld (K.abs s) i = some fs → K.vok (K.abs s) v → Calls Try.prog K.fP #[K.rP s, .int .i64 (i : Int), .int .i64 (k : Int), .agg #[.bool v.1, .int .i64 v.2]] w fun e w' => (∃ u, e = .returned u) ∧ ∃ s', K.abs s' = K.put (K.abs s) i k v ∧ Sep (K.item s).fp w w' [K.item s']

/-- The machine's cells. -/
theorem MemK.cells (K : MemK) {s : K.St} {w : World} (hP : (K.item s).P w) (h8 : (K.regs (K.abs s)).length = 8) (r : Nat) (hr : r < 8) :
    w.cell? ⟨K.Bm, r * 2, none⟩ = some (.bool (rgA (K.regs (K.abs s)) r).1) ∧ w.cell? ⟨K.Bm, r * 2 + 1, none⟩ = some (.int .i64 (rgA (K.regs (K.abs s)) r).2) ∧ w.cell? ⟨K.Bm, 16, none⟩ = some (.iface K.T K.p) ∧ K.Bm < w.heap.size := by
  have hB : Blk w K.Bm 113 (mcCells (K.regs (K.abs s)) (.iface K.T K.p)) := hP.1 (blkI K.Bm 113 (mcCells (K.regs (K.abs s)) (.iface K.T K.p))) (by simp [MemK.items])
  obtain ⟨c1, c2, c3⟩ := hB.rules
  have hrl : r < (K.regs (K.abs s)).length := by omega
  obtain ⟨m1, m2⟩ := mc_reg (f := .iface K.T K.p) hrl
  have hg : rgA (K.regs (K.abs s)) (r : Int) = (K.regs (K.abs s))[r] := by unfold rgA; rw [show ((r : Int)).toNat = r from by omega, List.getD_eq_getElem?_getD, List.getElem?_eq_getElem hrl]; rfl
  rw [hg]
  exact ⟨(c1 _).trans m1, (c1 _).trans m2, (c1 16).trans (mc_if h8), c3⟩
theorem MemK.frozen (K : MemK) {s : K.St} {w : World} (hP : (K.item s).P w) (j : Nat) : w.frozen? ⟨K.Bm, j, none⟩ = false := by
  have hB : Blk w K.Bm 113 (mcCells (K.regs (K.abs s)) (.iface K.T K.p)) := hP.1 (blkI K.Bm 113 (mcCells (K.regs (K.abs s)) (.iface K.T K.p))) (by simp [MemK.items])
  exact hB.rules.2.1 j

set_option maxRecDepth 100000 in
set_option maxHeartbeats 8000000 in
theorem kset_any (K : MemK) (h : K.Ok) {s : K.St} {w : World} (hP : (K.item s).P w) (ok : K.ok (K.abs s)) {r : Nat} (v : Val) (hr : r < 8) (hv : K.vok (K.abs s) v) :
    Calls Try.prog 108 #[.pointer (some ⟨K.Bm, 0, none⟩), .int .i64 r, .agg #[.bool v.1, .int .i64 v.2]] w fun e w' => (∃ u, e = .returned u) ∧ ∃ s', K.abs s' = K.setr (K.hold (K.abs s) r v) r v ∧ Sep (K.item s).fp w w' [K.item s'] := by
  obtain ⟨F, hF⟩ : ∃ F, (K.item s).fp = F := ⟨_, rfl⟩
  obtain ⟨g, hg⟩ : ∃ g, w.heap.size = g := ⟨_, rfl⟩
  have hS0 : Sep F w (w.alloc (.cells #[.bool v.1, .int .i64 v.2] 107)) [K.item s, blkI g 107 #[.bool v.1, .int .i64 v.2]] := by
    rw [← hF]
    exact (Sep.start hP).blkAt 107 #[.bool v.1, .int .i64 v.2] (g := g) hg
  rw [hF]
  have h8 := h.r8 _ ok
  obtain ⟨_, _, c5, c6⟩ := K.cells (hS0.get 0 rfl) h8 r hr
  obtain ⟨x1, x2, x3, _⟩ := hS0.rules 1 (g := g) (t := 107) rfl
  have x5 := (x1 0).trans (show _ = some (.bool v.1) from rfl)
  have x6 := (x1 1).trans (show _ = some (.int .i64 v.2) from rfl)
  have hne1 : g ≠ K.Bm := fun e => hS0.other (a := 1) (b := 0) rfl rfl (by omega) g rfl ⟨_, by unfold MemK.items; exact List.mem_cons_self .., e⟩
  have hne2 : K.Bm ≠ g := fun e => hne1 e.symm
  have HST := hide (fun (X : World) (s1 : K.St) (h8' : (K.regs (K.abs s1)).length = 8) (hX : Sep F w X [K.item s1, blkI g 107 #[.bool v.1, .int .i64 v.2]]) =>
    (show ∃ s', K.abs s' = K.setr (K.abs s1) r v ∧ Sep F w ((X.setCell ⟨K.Bm, r * 2, none⟩ (.bool v.1)).setCell ⟨K.Bm, r * 2 + 1, none⟩ (.int .i64 v.2)) [K.item s'] from by
      obtain ⟨s', e1, e2⟩ := h.set_ s1 r v
      refine ⟨s', e1, ?_⟩
      have h1 : Sep F w X (K.items s1 ++ [blkI g 107 #[.bool v.1, .int .i64 v.2]]) := hX.split
      have h2 := ((h1.set_ 0 (g := K.Bm) (t := 113) rfl (r * 2) (.bool v.1)).set_ 0 (g := K.Bm) (t := 113) rfl (r * 2 + 1) (.int .i64 v.2))
      rw [mc_set (by omega) v] at h2
      refine Sep.fold (l := K.items s') ?_
      have h3 : K.items s' = blkI K.Bm 113 (mcCells ((K.regs (K.abs s1)).set r v) (.iface K.T K.p)) :: K.rest s1 := by unfold MemK.items; rw [e1, e2, h.regs_set]
      rw [h3]
      exact h2.sub (List.sublist_append_left (_ :: K.rest s1) [_])))
  have HRU := hide (fun (X : World) (s1 : K.St) (h8' : (K.regs (K.abs s1)).length = 8) (hX : Sep F w X [K.item s1, blkI g 107 #[.bool v.1, .int .i64 v.2]]) =>
    (⟨((hX.rules 1 (g := g) (t := 107) rfl).1 0).trans rfl, ((hX.rules 1 (g := g) (t := 107) rfl).1 1).trans rfl, (K.cells (hX.get 0 rfl) h8' r hr).1, (K.cells (hX.get 0 rfl) h8' r hr).2.1, K.frozen (hX.get 0 rfl) (r * 2), K.frozen (hX.get 0 rfl) (r * 2 + 1), (K.cells (hX.get 0 rfl) h8' r hr).2.2.2, (K.cells (hX.get 0 rfl) h8' r hr).2.2.1⟩ :
      X.cell? ⟨g, 0, none⟩ = some (.bool v.1) ∧ X.cell? ⟨g, 1, none⟩ = some (.int .i64 v.2) ∧ X.cell? ⟨K.Bm, r * 2, none⟩ = some (.bool (rgA (K.regs (K.abs s1)) r).1) ∧ X.cell? ⟨K.Bm, r * 2 + 1, none⟩ = some (.int .i64 (rgA (K.regs (K.abs s1)) r).2) ∧ X.frozen? ⟨K.Bm, r * 2, none⟩ = false ∧ X.frozen? ⟨K.Bm, r * 2 + 1, none⟩ = false ∧ K.Bm < X.heap.size ∧ X.cell? ⟨K.Bm, 16, none⟩ = some (.iface K.T K.p)))
  have CH := hide (fun (W : World) (hW : (K.item s).P W) => h.cH s W r v hW ok hr hv)
  have HRH := hide (h.regs_hold (K.abs s) r v)
  have H8 := hide h8
  have HS0 := hide hS0
  have hinv := h.mH
  have hent := h.eH
  obtain ⟨W, hW⟩ : ∃ W, w.alloc (.cells #[.bool v.1, .int .i64 v.2] 107) = W := ⟨_, rfl⟩
  rw [hW] at HS0 c5 c6 x2 x3 x5 x6
  have HW := hide hW
  have HGG := hide hg
  have hr2 : r < 8 := hr
  have hr5 : (0 : Int) ≤ (r : Int) := by omega
  have hr6 : (r : Int) < 8 := by omega
  have hr7 : decide ((r : Int) < 0) = false := by simp
  have hr8 : decide ((8 : Int) ≤ (r : Int)) = false := by simp; omega
  obtain ⟨bv, mv⟩ := v
  dsimp only at x5 x6 HST HRU HW HS0 CH HRH ⊢
  obtain ⟨Bm, hBm⟩ : ∃ x, K.Bm = x := ⟨_, rfl⟩
  obtain ⟨fH, hfH⟩ : ∃ x, K.fH = x := ⟨_, rfl⟩
  obtain ⟨KT, hKT⟩ : ∃ x, K.T = x := ⟨_, rfl⟩
  obtain ⟨Kp, hKp⟩ : ∃ x, K.p = x := ⟨_, rfl⟩
  simp only [hBm, hfH, hKT, hKp] at c5 c6 HRU HST CH hinv hent hne1 hne2 ⊢
  clear hS0 hP hF hW hg x1 h8 hv ok h hBm hfH hKT hKp
  go_enter Try.func108, Try.ntmps108
  go_wp2_with fail
  rw [HW.out, HGG.out]
  have CH2 := hide (CH.out W.drew (HS0.out.drew.get 0 rfl))
  go_region_held3 (fun w' => w'.cell? ⟨Bm, 16, none⟩ = some (.iface KT Kp) ∧ w'.cell? ⟨g, 0, none⟩ = some (.bool bv) ∧ w'.cell? ⟨g, 1, none⟩ = some (.int .i64 mv)) (go_keep)
    (((with_reducible refine CH2.out.mono ?_); rintro e w5 ⟨⟨u, rfl⟩, s1, hab1, hP5⟩; have hS5 := HS0.out.drew.call 0 rfl hP5; have H81 := hide (show (K.regs (K.abs s1)).length = 8 by rw [hab1, HRH.out]; exact H8.out); obtain ⟨k1, k2, k3, k4, k5, k6, k7, k8⟩ := HRU.out _ s1 H81.out hS5; have HS5 := hide hS5; have HAB := hide hab1; clear hP5 hS5 hab1))
  all_goals
    go_wp2_with fail
    go_region_held3 (fun w' => w'.cell? ⟨g, 0, none⟩ = some (.bool bv) ∧ w'.cell? ⟨g, 1, none⟩ = some (.int .i64 mv)) (go_keep) (fail)
    all_goals
      go_end0
      obtain ⟨s2, hab2, hP6⟩ := HST.out _ s1 H81.out HS5.out.drew
      exact ⟨⟨_, rfl⟩, s2, by rw [hab2, HAB.out], hP6⟩

def MemK.len (K : MemK) (a : K.A) (x : Int) : Int := (((K.fld a x.toNat).getD []).length : Int)
def MemK.fErr (K : MemK) (a : K.A) (v : Val) (at_ : Int) : Int := if v.1 = false then 5 else if at_ < 0 ∨ K.len a v.2 ≤ at_ then 3 else 0

set_option maxRecDepth 100000 in
set_option maxHeartbeats 8000000 in
theorem kfield_any (K : MemK) (h : K.Ok) {s : K.St} {w : World} (hP : (K.item s).P w) (ok : K.ok (K.abs s)) (v : Val) (at_ : Int) (hv : K.vok (K.abs s) v) :
    Calls Try.prog 109 #[.pointer (some ⟨K.Bm, 0, none⟩), .agg #[.bool v.1, .int .i64 v.2], .int .i64 at_] w fun e w' => e = .returned (.int .i64 (K.fErr (K.abs s) v at_)) ∧ Below w.heap.size w w' := by
  have hB0 : Below w.heap.size w (w.alloc (.cells #[.bool v.1, .int .i64 v.2] 107)) := (Below.refl _ w).alloc (Nat.le_refl _) _
  have hP1 : ∀ k, (K.item s).P ((w.alloc (.cells #[.bool v.1, .int .i64 v.2] 107)).drewN k) := fun k => (((Sep.start hP).below hB0).drewN k).get 0 rfl
  obtain ⟨_, _, c5, c6⟩ := K.cells (hP1 0) (h.r8 _ ok) 0 (by omega)
  replace c5 : (w.alloc (.cells #[.bool v.1, .int .i64 v.2] 107)).cell? ⟨K.Bm, 16, none⟩ = some (.iface K.T K.p) := c5
  replace c6 : K.Bm < (w.alloc (.cells #[.bool v.1, .int .i64 v.2] 107)).heap.size := c6
  unfold MemK.fErr
  obtain ⟨bv, m⟩ := v
  dsimp only at hv ⊢
  have HB0 := hide hB0
  cases bv with
  | false =>
    rw [if_pos rfl]
    obtain ⟨Bm, hBm⟩ : ∃ x, K.Bm = x := ⟨_, rfl⟩
    rw [hBm] at c5 c6 ⊢
    clear hB0 hP1 h hP ok hv hBm
    go_enter Try.func109, Try.ntmps109
    go_wp2_with fail
    go_ret
    exact ⟨rfl, HB0.out⟩
  | true =>
    rw [if_neg (by simp)]
    obtain ⟨z, fs, hz, hfs⟩ := hv rfl
    dsimp only at hz
    subst hz
    have hgd : K.len (K.abs s) (z : Int) = (fs.length : Int) := by unfold MemK.len; rw [show ((z : Int)).toNat = z from by omega, hfs]; rfl
    rw [hgd]
    have hz1 := h.lim _ _ _ ok hfs
    have hq4 := h.f4 _ _ _ ok hfs
    have CL := fun k => h.cL s _ z fs (hP1 k) ok hfs
    have hent := h.eL
    have hme : ∀ k, (method 455 K.T K.p "Len").run Try.prog ((w.alloc (.cells #[.bool true, .int .i64 z] 107)).drewN k) = .ok (K.fL, K.rL s) ((w.alloc (.cells #[.bool true, .int .i64 z] 107)).drewN k) := fun k => h.mL s _ (hP1 k)
    obtain ⟨q, hq⟩ : ∃ q, fs.length = q := ⟨_, rfl⟩
    simp only [hq] at CL
    rw [hq] at hq4 ⊢
    obtain ⟨Bm, hBm⟩ : ∃ x, K.Bm = x := ⟨_, rfl⟩
    obtain ⟨fL, hfL⟩ : ∃ x, K.fL = x := ⟨_, rfl⟩
    obtain ⟨KT, hKT⟩ : ∃ x, K.T = x := ⟨_, rfl⟩
    obtain ⟨Kp, hKp⟩ : ∃ x, K.p = x := ⟨_, rfl⟩
    obtain ⟨rL, hrL⟩ : ∃ x, K.rL s = x := ⟨_, rfl⟩
    simp only [hBm, hfL, hKT, hKp, hrL] at c5 c6 CL hme hent ⊢
    replace CL := hide (fun k => Calls.quiet_of_same (v := .int .i64 q) (CL k))
    clear hgd hB0 hP1 h hP ok hv hBm hfL hKT hKp hrL hq hfs
    by_cases h0 : at_ < 0
    · have t1 : decide (at_ < 0) = true := by simp [h0]
      rw [if_pos (.inl h0)]
      go_enter Try.func109, Try.ntmps109
      go_wp2_with fail
      go_quiet (fail)
      go_wp2_with fail
      go_ret
      exact ⟨rfl, below_drewN HB0.out _⟩
    · have t1 : decide (at_ < 0) = false := by simp only [h0, decide_false]
      by_cases h1 : (q : Int) ≤ at_
      · have t2 : decide ((q : Int) ≤ at_) = true := by simp [h1]
        rw [if_pos (.inr h1)]
        go_enter Try.func109, Try.ntmps109
        go_wp2_with fail
        go_quiet (with_reducible exact CL.out _)
        go_wp2_with fail
        go_ret
        exact ⟨rfl, below_drewN HB0.out _⟩
      · have t2 : decide ((q : Int) ≤ at_) = false := by simp only [h1, decide_false]
        rw [if_neg (fun h => h.elim h0 h1)]
        go_enter Try.func109, Try.ntmps109
        go_wp2_with fail
        go_quiet (with_reducible exact CL.out _)
        go_wp2_with fail
        go_ret
        exact ⟨rfl, below_drewN HB0.out _⟩
end Go.Proofs.Ytjphckfbbiehdaa

namespace Go.Proofs.Ytjphckfbbiehdaa
open Go.RowKit

def MemK.sh (K : MemK) (a : K.A) (r : Nat) (v : Val) : K.A := K.setr (K.hold a r v) r v
def MemK.kstep (K : MemK) (d : DoV) (a : K.A) : OutV × K.A :=
  if d.k = 1 then
    if (K.new_ a d.n.toNat).2.2 ≠ 0 then (⟨(K.new_ a d.n.toNat).2.2, false, 0⟩, (K.new_ a d.n.toNat).1)
    else (⟨0, false, 0⟩, K.sh (K.new_ a d.n.toNat).1 d.to.toNat (true, (K.new_ a d.n.toNat).2.1))
  else if d.k = 2 then (⟨0, false, 0⟩, K.sh a d.to.toNat (false, d.n))
  else if d.k = 3 then (⟨0, false, 0⟩, K.sh a d.to.toNat (rgA (K.regs a) d.fr))
  else if d.k = 4 then
    if K.fErr a (rgA (K.regs a) d.to) d.at_ ≠ 0 then (⟨K.fErr a (rgA (K.regs a) d.to) d.at_, false, 0⟩, a)
    else (⟨0, false, 0⟩, K.put a (rgA (K.regs a) d.to).2.toNat d.at_.toNat (rgA (K.regs a) d.fr))
  else if d.k = 5 then
    if K.fErr a (rgA (K.regs a) d.fr) d.at_ ≠ 0 then (⟨K.fErr a (rgA (K.regs a) d.fr) d.at_, false, 0⟩, a)
    else (⟨0, false, 0⟩, K.sh a d.to.toNat (((K.fld a (rgA (K.regs a) d.fr).2.toNat).getD []).getD d.at_.toNat (false, 0)))
  else if d.k = 6 then (⟨0, false, if rgA (K.regs a) d.to = rgA (K.regs a) d.fr then 1 else 0⟩, a)
  else (⟨0, (rgA (K.regs a) d.fr).1, if (rgA (K.regs a) d.fr).1 = true then K.len a (rgA (K.regs a) d.fr).2 else (rgA (K.regs a) d.fr).2⟩, a)
def MemK.step (K : MemK) (d : DoV) (a : K.A) : OutV × K.A := if wrongM d ≠ 0 then (⟨wrongM d, false, 0⟩, a) else K.kstep d a
def MemK.DoOk (K : MemK) (s : K.St) (w : World) (d : DoV) : Prop :=
  Calls Try.prog 43 #[.pointer (some ⟨K.Bm, 0, none⟩), .agg d.cells] w fun e w' => e = .returned (K.step d (K.abs s)).1.val ∧ ∃ s', K.abs s' = (K.step d (K.abs s)).2 ∧ Sep (K.item s).fp w w' [K.item s']
theorem MemK.vok_rg (K : MemK) (h : K.Ok) {a : K.A} (ok : K.ok a) (r : Int) : K.vok a (rgA (K.regs a) r) := by
  unfold rgA
  rcases getD_mem_or (K.regs a) r.toNat (false, 0) with h2 | h2
  · exact h.vr _ _ ok h2
  · rw [h2]; intro h1; cases h1
theorem kerr_facts (K : MemK) (h : K.Ok) {a : K.A} (ok : K.ok a) {bv : Bool} {mv at_ : Int} (hv : K.vok a (bv, mv)) (hz : K.fErr a (bv, mv) at_ = 0) :
    bv = true ∧ ∃ (i k : Nat) (fs : List Val), mv = (i : Int) ∧ at_ = (k : Int) ∧ K.fld a i = some fs ∧ k < fs.length ∧ fs.length ≤ 4 ∧ i ≤ 1000 := by
  unfold MemK.fErr at hz
  dsimp only at hz
  split at hz
  · omega
  · rename_i h1
    have hb : bv = true := by simpa using h1
    obtain ⟨i, fs, h2, h3⟩ := hv hb
    dsimp only at h2
    subst h2
    split at hz
    · omega
    · rename_i h4
      have h5 : K.len a (i : Int) = (fs.length : Int) := by unfold MemK.len; rw [show ((i : Int)).toNat = i from by omega, h3]; rfl
      rw [h5] at h4
      obtain ⟨k, rfl⟩ := int_nat (show 0 ≤ at_ from by omega)
      exact ⟨hb, i, k, fs, rfl, rfl, h3, by omega, h.f4 _ _ _ ok h3, h.lim _ _ _ ok h3⟩

set_option maxRecDepth 100000 in
set_option maxHeartbeats 8000000 in
theorem kdo_bad (K : MemK) {s : K.St} {w : World} (hP : (K.item s).P w) (d : DoV) (hw : wrongM d ≠ 0) : K.DoOk s w d := by
  unfold MemK.DoOk
  obtain ⟨F, hF⟩ : ∃ F, (K.item s).fp = F := ⟨_, rfl⟩
  obtain ⟨g, hg⟩ : ∃ g, w.heap.size = g := ⟨_, rfl⟩
  have hS0 := ((Sep.start hP).blkAt 39 d.cells (g := g) hg).blkAt 41 #[.int .i64 0, .bool false, .int .i64 0] (g := g + 1) (by simp [hg])
  rw [hF] at hS0 ⊢
  have hst : K.step d (K.abs s) = (⟨wrongM d, false, 0⟩, K.abs s) := by unfold MemK.step; rw [if_pos hw]
  rw [hst]
  unfold OutV.val
  dsimp only
  have CW := wrong_any ((w.alloc (.cells d.cells 39)).alloc (.cells #[.int .i64 0, .bool false, .int .i64 0] 41)) d
  obtain ⟨x, hx⟩ : ∃ x, wrongM d = x := ⟨_, rfl⟩
  rw [hx] at CW hw ⊢
  have HCW := hide CW
  have HS0 := hide hS0
  have y1 : (x != 0) = true := by rw [bne_iff_ne]; exact hw
  obtain ⟨k, to, fr, at_, n⟩ := d
  unfold DoV.cells at HCW HS0 ⊢
  dsimp only at HCW HS0 ⊢
  obtain ⟨a1, a2, a3, a4⟩ := HS0.out.rules 1 (g := g) (t := 39) rfl
  have e0 := (a1 0).trans (show _ = some (.int .i64 k) from rfl)
  have e1 := (a1 1).trans (show _ = some (.int .i64 to) from rfl)
  have e2 := (a1 2).trans (show _ = some (.int .i64 fr) from rfl)
  have e3 := (a1 3).trans (show _ = some (.int .i64 at_) from rfl)
  have e4 := (a1 4).trans (show _ = some (.int .i64 n) from rfl)
  clear CW hS0 hst hw hx hF hP a1 a4
  go_enter Try.func43, Try.ntmps43
  go_wp2_with fail
  refine HCW.out.mono ?_
  rintro e w1 ⟨rfl, hb1⟩
  have hS1 := HS0.out.below hb1
  obtain ⟨b1, b2, b3, b4⟩ := hS1.rules 2 (g := g + 1) (t := 41) rfl
  have f0 := (b1 0).trans (show _ = some (.int .i64 0) from rfl)
  have f1 := (b1 1).trans (show _ = some (.bool false) from rfl)
  have f2 := (b1 2).trans (show _ = some (.int .i64 0) from rfl)
  have HS1 := hide hS1
  clear hb1 hS1 HS0 HCW a2 a3 e0 e1 e2 e3 e4 b1 b4
  go_wp2_with fail
  have hF := ((HS1.out.set_ 2 (g := g + 1) (t := 41) rfl 0 (.int .i64 x)).set_ 2 (g := g + 1) (t := 41) rfl 1 (.bool false)).set_ 2 (g := g + 1) (t := 41) rfl 2 (.int .i64 0)
  refine bodyPost_ret (v := .agg #[.int .i64 x, .bool false, .int .i64 0]) (by simp [results, Try.results43, go_sem, f0, f1, f2]) rfl ⟨rfl, s, rfl, hF.sub (by simp)⟩

set_option maxRecDepth 100000 in
set_option maxHeartbeats 16000000 in
theorem kdo_2 (K : MemK) (h : K.Ok) {s : K.St} {w : World} (hP : (K.item s).P w) (ok1 : K.ok1 (K.abs s)) (to fr at_ n : Int) (hw : wrongM ⟨2, to, fr, at_, n⟩ = 0) : K.DoOk s w ⟨2, to, fr, at_, n⟩ := by
  have ok := h.ok_of _ ok1
  unfold MemK.DoOk
  obtain ⟨F, hF⟩ : ∃ F, (K.item s).fp = F := ⟨_, rfl⟩
  obtain ⟨g, hg⟩ : ∃ g, w.heap.size = g := ⟨_, rfl⟩
  have hS0 := ((Sep.start hP).blkAt 39 (DoV.cells ⟨2, to, fr, at_, n⟩) (g := g) hg).blkAt 41 #[.int .i64 0, .bool false, .int .i64 0] (g := g + 1) (by simp [hg])
  rw [hF] at hS0 ⊢
  have h8 : (K.regs (K.abs s)).length = 8 := h.r8 _ ok
  have HST := hide (show K.step ⟨2, to, fr, at_, n⟩ (K.abs s) = (⟨0, false, 0⟩, K.sh (K.abs s) to.toNat (false, n)) from by
    unfold MemK.step
    rw [if_neg (by rw [hw]; simp)]
    unfold MemK.kstep
    dsimp only
    rw [if_neg (show ¬(2 : Int) = 1 by decide), if_pos rfl])
  obtain ⟨res, hres⟩ : ∃ r, K.step ⟨2, to, fr, at_, n⟩ (K.abs s) = r := ⟨_, rfl⟩
  rw [hres] at HST ⊢
  clear hres
  have HCW := wrong_any ((w.alloc (.cells (DoV.cells ⟨2, to, fr, at_, n⟩) 39)).alloc (.cells #[.int .i64 0, .bool false, .int .i64 0] 41)) ⟨2, to, fr, at_, n⟩
  rw [hw] at HCW
  replace HCW := hide HCW
  obtain ⟨t0, t1⟩ := wrongM_to hw (by show (2 : Int) ≠ 7; decide)
  dsimp only at t0 t1
  obtain ⟨R, rfl⟩ := int_nat t0
  have hR : R < 8 := by omega
  rw [show ((R : Int)).toNat = R from by omega] at HST
  have HS0 := hide hS0
  unfold DoV.cells at HCW HS0 ⊢
  dsimp only at HCW HS0 ⊢
  obtain ⟨a1, a2, a3, a4⟩ := HS0.out.rules 1 (g := g) (t := 39) rfl
  have e0 := (a1 0).trans (show _ = some (.int .i64 2) from rfl)
  have e1 := (a1 1).trans (show _ = some (.int .i64 _) from rfl)
  have e2 := (a1 2).trans (show _ = some (.int .i64 _) from rfl)
  have e3 := (a1 3).trans (show _ = some (.int .i64 _) from rfl)
  have e4 := (a1 4).trans (show _ = some (.int .i64 _) from rfl)
  have HOK := hide ok
  have HOK1 := hide ok1
  have HH := hide h
  clear hS0 hF hP a1 a4 hw ok ok1 h
  go_enter Try.func43, Try.ntmps43
  go_wp2_with fail
  refine HCW.out.mono ?_
  rintro e w1 ⟨rfl, hb1⟩
  have hS1 := HS0.out.below hb1
  obtain ⟨b1, b2, b3, b4⟩ := hS1.rules 2 (g := g + 1) (t := 41) rfl
  have f0 := (b1 0).trans (show _ = some (.int .i64 0) from rfl)
  have f1 := (b1 1).trans (show _ = some (.bool false) from rfl)
  have f2 := (b1 2).trans (show _ = some (.int .i64 0) from rfl)
  obtain ⟨a1, a2', a3', a4⟩ := hS1.rules 1 (g := g) (t := 39) rfl
  have e0 := (a1 0).trans (show _ = some (.int .i64 2) from rfl)
  have e1 := (a1 1).trans (show _ = some (.int .i64 _) from rfl)
  have e2 := (a1 2).trans (show _ = some (.int .i64 _) from rfl)
  have e3 := (a1 3).trans (show _ = some (.int .i64 _) from rfl)
  have e4 := (a1 4).trans (show _ = some (.int .i64 _) from rfl)
  clear a1 a4 b1 b4
  have HS1 := hide hS1
  clear hb1 HS0 HCW a2 a3
  have CM := hide (kset_any K HH.out (HS1.out.get 0 rfl) HOK.out (false, n) hR (fun h => by cases h))
  dsimp only at CM
  clear hS1
  go_wp2_with fail
  refine CM.out.mono ?_
  rintro e w2 ⟨⟨u, rfl⟩, s2, hab2, hP2⟩
  have hS2 := HS1.out.call 0 rfl hP2
  obtain ⟨b1, b2, b3, b4⟩ := hS2.rules 2 (g := g + 1) (t := 41) rfl
  have f0 := (b1 0).trans (show _ = some (.int .i64 0) from rfl)
  have f1 := (b1 1).trans (show _ = some (.bool false) from rfl)
  have f2 := (b1 2).trans (show _ = some (.int .i64 0) from rfl)
  obtain ⟨a1, a2', a3', a4⟩ := hS2.rules 1 (g := g) (t := 39) rfl
  have e0 := (a1 0).trans (show _ = some (.int .i64 2) from rfl)
  have e1 := (a1 1).trans (show _ = some (.int .i64 _) from rfl)
  have e2 := (a1 2).trans (show _ = some (.int .i64 _) from rfl)
  have e3 := (a1 3).trans (show _ = some (.int .i64 _) from rfl)
  have e4 := (a1 4).trans (show _ = some (.int .i64 _) from rfl)
  clear a1 a4 b1 b4
  have HS2 := hide hS2
  have HAB := hide hab2
  clear hP2 HS1 CM hS2 hab2
  go_wp2_with fail
  have hr := HST.out
  subst hr
  have hF := (((HS2.out).set_ 2 (g := g + 1) (t := 41) rfl 0 (.int .i64 0)).set_ 2 (g := g + 1) (t := 41) rfl 1 (.bool false)).set_ 2 (g := g + 1) (t := 41) rfl 2 (.int .i64 0)
  refine bodyPost_ret (v := .agg #[.int .i64 0, .bool false, .int .i64 0]) (by simp [results, Try.results43, go_sem, f0, f1, f2]) rfl ⟨rfl, s2, HAB.out, hF.sub (by simp)⟩

set_option maxRecDepth 100000 in
set_option maxHeartbeats 16000000 in
theorem kdo_1 (K : MemK) (h : K.Ok) {s : K.St} {w : World} (hP : (K.item s).P w) (ok1 : K.ok1 (K.abs s)) (to fr at_ n : Int) (hw : wrongM ⟨1, to, fr, at_, n⟩ = 0) : K.DoOk s w ⟨1, to, fr, at_, n⟩ := by
  have ok := h.ok_of _ ok1
  unfold MemK.DoOk
  obtain ⟨F, hF⟩ : ∃ F, (K.item s).fp = F := ⟨_, rfl⟩
  obtain ⟨g, hg⟩ : ∃ g, w.heap.size = g := ⟨_, rfl⟩
  have hS0 := ((Sep.start hP).blkAt 39 (DoV.cells ⟨1, to, fr, at_, n⟩) (g := g) hg).blkAt 41 #[.int .i64 0, .bool false, .int .i64 0] (g := g + 1) (by simp [hg])
  rw [hF] at hS0 ⊢
  have h8 : (K.regs (K.abs s)).length = 8 := h.r8 _ ok
  have HST := hide (show K.step ⟨1, to, fr, at_, n⟩ (K.abs s) = if (K.new_ (K.abs s) n.toNat).2.2 ≠ 0 then (⟨(K.new_ (K.abs s) n.toNat).2.2, false, 0⟩, (K.new_ (K.abs s) n.toNat).1) else (⟨0, false, 0⟩, K.sh (K.new_ (K.abs s) n.toNat).1 to.toNat (true, (K.new_ (K.abs s) n.toNat).2.1)) from by
    unfold MemK.step
    rw [if_neg (by rw [hw]; simp)]
    unfold MemK.kstep
    dsimp only
    rw [if_pos rfl])
  obtain ⟨res, hres⟩ : ∃ r, K.step ⟨1, to, fr, at_, n⟩ (K.abs s) = r := ⟨_, rfl⟩
  rw [hres] at HST ⊢
  clear hres
  have HCW := wrong_any ((w.alloc (.cells (DoV.cells ⟨1, to, fr, at_, n⟩) 39)).alloc (.cells #[.int .i64 0, .bool false, .int .i64 0] 41)) ⟨1, to, fr, at_, n⟩
  rw [hw] at HCW
  replace HCW := hide HCW
  obtain ⟨t0, t1⟩ := wrongM_to hw (by show (1 : Int) ≠ 7; decide)
  dsimp only at t0 t1
  obtain ⟨R, rfl⟩ := int_nat t0
  have hR : R < 8 := by omega
  rw [show ((R : Int)).toNat = R from by omega] at HST
  obtain ⟨n0, n1⟩ := wrongM_n hw rfl
  dsimp only at n0 n1
  obtain ⟨N, rfl⟩ := int_nat n0
  have hN : N ≤ 4 := by omega
  rw [show ((N : Int)).toNat = N from by omega] at HST
  have HS0 := hide hS0
  unfold DoV.cells at HCW HS0 ⊢
  dsimp only at HCW HS0 ⊢
  obtain ⟨a1, a2, a3, a4⟩ := HS0.out.rules 1 (g := g) (t := 39) rfl
  have e0 := (a1 0).trans (show _ = some (.int .i64 1) from rfl)
  have e1 := (a1 1).trans (show _ = some (.int .i64 _) from rfl)
  have e2 := (a1 2).trans (show _ = some (.int .i64 _) from rfl)
  have e3 := (a1 3).trans (show _ = some (.int .i64 _) from rfl)
  have e4 := (a1 4).trans (show _ = some (.int .i64 _) from rfl)
  have HOK := hide ok
  have HOK1 := hide ok1
  have HH := hide h
  clear hS0 hF hP a1 a4 hw ok ok1 h
  go_enter Try.func43, Try.ntmps43
  go_wp2_with fail
  refine HCW.out.mono ?_
  rintro e w1 ⟨rfl, hb1⟩
  have hS1 := HS0.out.below hb1
  obtain ⟨b1, b2, b3, b4⟩ := hS1.rules 2 (g := g + 1) (t := 41) rfl
  have f0 := (b1 0).trans (show _ = some (.int .i64 0) from rfl)
  have f1 := (b1 1).trans (show _ = some (.bool false) from rfl)
  have f2 := (b1 2).trans (show _ = some (.int .i64 0) from rfl)
  obtain ⟨a1, a2', a3', a4⟩ := hS1.rules 1 (g := g) (t := 39) rfl
  have e0 := (a1 0).trans (show _ = some (.int .i64 1) from rfl)
  have e1 := (a1 1).trans (show _ = some (.int .i64 _) from rfl)
  have e2 := (a1 2).trans (show _ = some (.int .i64 _) from rfl)
  have e3 := (a1 3).trans (show _ = some (.int .i64 _) from rfl)
  have e4 := (a1 4).trans (show _ = some (.int .i64 _) from rfl)
  clear a1 a4 b1 b4
  have HS1 := hide hS1
  clear hb1 HS0 HCW a2 a3
  have hP1 : (K.item s).P w1 := hS1.get 0 rfl
  obtain ⟨_, _, i1, i2⟩ := K.cells hP1 h8 0 (by omega)
  have CN := HH.out.cN s w1.drew N (hS1.drew.get 0 rfl) HOK.out hN
  have HON := HH.out.okN _ N HOK1.out hN
  obtain ⟨⟨a', xo, xe⟩, hx⟩ : ∃ p, K.new_ (K.abs s) N = p := ⟨_, rfl⟩
  rw [hx] at CN HON HST
  dsimp only at CN HON HST
  replace CN := hide CN
  replace HON := hide HON
  have hinv := HH.out.mN
  have hent := HH.out.eN
  obtain ⟨fN, hfN⟩ : ∃ x, K.fN = x := ⟨_, rfl⟩
  simp only [hfN] at CN hinv hent
  clear hS1 hP1 hx hfN
  go_wp2_with fail
  go_region_held3 (fun w' => w'.cell? ⟨K.Bm, 16, none⟩ = some (.iface K.T K.p) ∧ w'.cell? ⟨g, 4, none⟩ = some (.int .i64 (N : Int))) (go_keep)
    (((with_reducible refine CN.out.mono ?_); rintro e w2 ⟨rfl, s2, hab2, hP2⟩; have hS2 := HS1.out.drew.call 0 rfl hP2; have HAB := hide hab2; obtain ⟨_, _, k1, k2⟩ := K.cells (hS2.get 0 rfl) (by rw [HAB.out]; exact HH.out.r8 _ HON.out.1) 0 (by omega); have k3 : w2.cell? ⟨g, 4, none⟩ = some (.int .i64 (N : Int)) := ((hS2.rules 1 (g := g) (t := 39) rfl).1 4).trans rfl; have HS2 := hide hS2; clear hP2 hS2 hab2))
  all_goals
    have hS2 := HS2.out
    obtain ⟨b1, b2, b3, b4⟩ := hS2.rules 2 (g := g + 1) (t := 41) rfl
    have f0 := (b1 0).trans (show _ = some (.int .i64 0) from rfl)
    have f1 := (b1 1).trans (show _ = some (.bool false) from rfl)
    have f2 := (b1 2).trans (show _ = some (.int .i64 0) from rfl)
    obtain ⟨a1, a2', a3', a4⟩ := hS2.rules 1 (g := g) (t := 39) rfl
    have e0 := (a1 0).trans (show _ = some (.int .i64 1) from rfl)
    have e1 := (a1 1).trans (show _ = some (.int .i64 _) from rfl)
    have e2 := (a1 2).trans (show _ = some (.int .i64 _) from rfl)
    have e3 := (a1 3).trans (show _ = some (.int .i64 _) from rfl)
    have e4 := (a1 4).trans (show _ = some (.int .i64 _) from rfl)
    clear a1 a4 b1 b4
    by_cases hxe : xe = 0
    · have hxz := hxe
      subst hxz
      clear hxe
      have CM := hide (kset_any K HH.out (hS2.get 0 rfl) (by rw [HAB.out]; exact HON.out.1) (true, xo) hR (by rw [HAB.out]; exact HON.out.2 rfl))
      dsimp only at CM
      clear hS2 CN
      go_wp2_with fail
      refine CM.out.mono ?_
      rintro e w3 ⟨⟨u, rfl⟩, s3, hab3, hP3⟩
      have hS3 := HS2.out.call 0 rfl hP3
      obtain ⟨b1, b2, b3, b4⟩ := hS3.rules 2 (g := g + 1) (t := 41) rfl
      have f0 := (b1 0).trans (show _ = some (.int .i64 0) from rfl)
      have f1 := (b1 1).trans (show _ = some (.bool false) from rfl)
      have f2 := (b1 2).trans (show _ = some (.int .i64 0) from rfl)
      obtain ⟨a1, a2', a3', a4⟩ := hS3.rules 1 (g := g) (t := 39) rfl
      have e0 := (a1 0).trans (show _ = some (.int .i64 1) from rfl)
      have e1 := (a1 1).trans (show _ = some (.int .i64 _) from rfl)
      have e2 := (a1 2).trans (show _ = some (.int .i64 _) from rfl)
      have e3 := (a1 3).trans (show _ = some (.int .i64 _) from rfl)
      have e4 := (a1 4).trans (show _ = some (.int .i64 _) from rfl)
      clear a1 a4 b1 b4
      have HS3 := hide hS3
      have HAB3 := hide hab3
      clear hP3 HS2 CM hS3 hab3
      go_wp2_with fail
      have hr := HST.out
      rw [if_neg (by simp)] at hr
      subst hr
      have hF := (((HS3.out).set_ 2 (g := g + 1) (t := 41) rfl 0 (.int .i64 0)).set_ 2 (g := g + 1) (t := 41) rfl 1 (.bool false)).set_ 2 (g := g + 1) (t := 41) rfl 2 (.int .i64 0)
      refine bodyPost_ret (v := .agg #[.int .i64 0, .bool false, .int .i64 0]) (by simp [results, Try.results43, go_sem, f0, f1, f2]) rfl ⟨rfl, s3, by rw [HAB3.out, HAB.out]; rfl, hF.sub (by simp)⟩
    · have y1 : (xe != 0) = true := by rw [bne_iff_ne]; exact hxe
      have HXE := hide hxe
      clear hS2 CN hxe
      go_wp2_with fail
      have hr := HST.out
      rw [if_pos HXE.out] at hr
      subst hr
      have hF := (((HS2.out).set_ 2 (g := g + 1) (t := 41) rfl 0 (.int .i64 xe)).set_ 2 (g := g + 1) (t := 41) rfl 1 (.bool false)).set_ 2 (g := g + 1) (t := 41) rfl 2 (.int .i64 0)
      refine bodyPost_ret (v := .agg #[.int .i64 xe, .bool false, .int .i64 0]) (by simp [results, Try.results43, go_sem, f0, f1, f2]) rfl ⟨rfl, s2, HAB.out, hF.sub (by simp)⟩

set_option maxRecDepth 100000 in
set_option maxHeartbeats 16000000 in
theorem kdo_3 (K : MemK) (h : K.Ok) {s : K.St} {w : World} (hP : (K.item s).P w) (ok1 : K.ok1 (K.abs s)) (to fr at_ n : Int) (hw : wrongM ⟨3, to, fr, at_, n⟩ = 0) : K.DoOk s w ⟨3, to, fr, at_, n⟩ := by
  have ok := h.ok_of _ ok1
  unfold MemK.DoOk
  obtain ⟨F, hF⟩ : ∃ F, (K.item s).fp = F := ⟨_, rfl⟩
  obtain ⟨g, hg⟩ : ∃ g, w.heap.size = g := ⟨_, rfl⟩
  have hS0 := ((Sep.start hP).blkAt 39 (DoV.cells ⟨3, to, fr, at_, n⟩) (g := g) hg).blkAt 41 #[.int .i64 0, .bool false, .int .i64 0] (g := g + 1) (by simp [hg])
  rw [hF] at hS0 ⊢
  have h8 : (K.regs (K.abs s)).length = 8 := h.r8 _ ok
  have HST := hide (show K.step ⟨3, to, fr, at_, n⟩ (K.abs s) = (⟨0, false, 0⟩, K.sh (K.abs s) to.toNat (rgA (K.regs (K.abs s)) fr)) from by
    unfold MemK.step
    rw [if_neg (by rw [hw]; simp)]
    unfold MemK.kstep
    dsimp only
    rw [if_neg (show ¬(3 : Int) = 1 by decide), if_neg (show ¬(3 : Int) = 2 by decide), if_pos rfl])
  obtain ⟨res, hres⟩ : ∃ r, K.step ⟨3, to, fr, at_, n⟩ (K.abs s) = r := ⟨_, rfl⟩
  rw [hres] at HST ⊢
  clear hres
  have HCW := wrong_any ((w.alloc (.cells (DoV.cells ⟨3, to, fr, at_, n⟩) 39)).alloc (.cells #[.int .i64 0, .bool false, .int .i64 0] 41)) ⟨3, to, fr, at_, n⟩
  rw [hw] at HCW
  replace HCW := hide HCW
  obtain ⟨t0, t1⟩ := wrongM_to hw (by show (3 : Int) ≠ 7; decide)
  dsimp only at t0 t1
  obtain ⟨R, rfl⟩ := int_nat t0
  have hR : R < 8 := by omega
  rw [show ((R : Int)).toNat = R from by omega] at HST
  obtain ⟨u0, u1⟩ := wrongM_fr hw (by show (3 : Int) ≠ 1; decide) (by show (3 : Int) ≠ 2; decide)
  dsimp only at u0 u1
  obtain ⟨Q, rfl⟩ := int_nat u0
  have hQ : Q < 8 := by omega
  have HS0 := hide hS0
  unfold DoV.cells at HCW HS0 ⊢
  dsimp only at HCW HS0 ⊢
  obtain ⟨a1, a2, a3, a4⟩ := HS0.out.rules 1 (g := g) (t := 39) rfl
  have e0 := (a1 0).trans (show _ = some (.int .i64 3) from rfl)
  have e1 := (a1 1).trans (show _ = some (.int .i64 _) from rfl)
  have e2 := (a1 2).trans (show _ = some (.int .i64 _) from rfl)
  have e3 := (a1 3).trans (show _ = some (.int .i64 _) from rfl)
  have e4 := (a1 4).trans (show _ = some (.int .i64 _) from rfl)
  have HOK := hide ok
  have HOK1 := hide ok1
  have HH := hide h
  clear hS0 hF hP a1 a4 hw ok ok1 h
  go_enter Try.func43, Try.ntmps43
  go_wp2_with fail
  refine HCW.out.mono ?_
  rintro e w1 ⟨rfl, hb1⟩
  have hS1 := HS0.out.below hb1
  obtain ⟨b1, b2, b3, b4⟩ := hS1.rules 2 (g := g + 1) (t := 41) rfl
  have f0 := (b1 0).trans (show _ = some (.int .i64 0) from rfl)
  have f1 := (b1 1).trans (show _ = some (.bool false) from rfl)
  have f2 := (b1 2).trans (show _ = some (.int .i64 0) from rfl)
  obtain ⟨a1, a2', a3', a4⟩ := hS1.rules 1 (g := g) (t := 39) rfl
  have e0 := (a1 0).trans (show _ = some (.int .i64 3) from rfl)
  have e1 := (a1 1).trans (show _ = some (.int .i64 _) from rfl)
  have e2 := (a1 2).trans (show _ = some (.int .i64 _) from rfl)
  have e3 := (a1 3).trans (show _ = some (.int .i64 _) from rfl)
  have e4 := (a1 4).trans (show _ = some (.int .i64 _) from rfl)
  clear a1 a4 b1 b4
  have HS1 := hide hS1
  clear hb1 HS0 HCW a2 a3
  have hP1 : (K.item s).P w1 := hS1.get 0 rfl
  obtain ⟨i3, i4, i1, i2⟩ := K.cells hP1 h8 Q hQ
  have hvv := K.vok_rg HH.out HOK.out (Q : Int)
  obtain ⟨v, hv⟩ : ∃ v, rgA (K.regs (K.abs s)) (Q : Int) = v := ⟨_, rfl⟩
  rw [hv] at i3 i4 HST hvv
  have CM := hide (kset_any K HH.out (w := w1.drew) (hS1.drew.get 0 rfl) HOK.out v hR hvv)
  obtain ⟨bv, mv⟩ := v
  dsimp only at i3 i4 CM
  clear hS1 hP1 hv hvv
  go_wp2_with fail
  go_region_law (first
    | (try go_simp
       go_at_call 108
       refine CM.out.mono ?_
       rintro e w2 ⟨⟨u, rfl⟩, s2, hab2, hP2⟩))
  all_goals
    have hS2 := HS1.out.drew.call 0 rfl hP2
    obtain ⟨b1, b2, b3, b4⟩ := hS2.rules 2 (g := g + 1) (t := 41) rfl
    have f0 := (b1 0).trans (show _ = some (.int .i64 0) from rfl)
    have f1 := (b1 1).trans (show _ = some (.bool false) from rfl)
    have f2 := (b1 2).trans (show _ = some (.int .i64 0) from rfl)
    obtain ⟨a1, a2', a3', a4⟩ := hS2.rules 1 (g := g) (t := 39) rfl
    have e0 := (a1 0).trans (show _ = some (.int .i64 3) from rfl)
    have e1 := (a1 1).trans (show _ = some (.int .i64 _) from rfl)
    have e2 := (a1 2).trans (show _ = some (.int .i64 _) from rfl)
    have e3 := (a1 3).trans (show _ = some (.int .i64 _) from rfl)
    have e4 := (a1 4).trans (show _ = some (.int .i64 _) from rfl)
    clear a1 a4 b1 b4
    have HS2 := hide hS2
    have HAB := hide hab2
    clear hP2 HS1 CM hS2 hab2
    go_wp2_with fail
    have hr := HST.out
    subst hr
    have hF := (((HS2.out).set_ 2 (g := g + 1) (t := 41) rfl 0 (.int .i64 0)).set_ 2 (g := g + 1) (t := 41) rfl 1 (.bool false)).set_ 2 (g := g + 1) (t := 41) rfl 2 (.int .i64 0)
    refine bodyPost_ret (v := .agg #[.int .i64 0, .bool false, .int .i64 0]) (by simp [results, Try.results43, go_sem, f0, f1, f2]) rfl ⟨rfl, s2, HAB.out, hF.sub (by simp)⟩

set_option maxRecDepth 100000 in
set_option maxHeartbeats 16000000 in
theorem kdo_4 (K : MemK) (h : K.Ok) {s : K.St} {w : World} (hP : (K.item s).P w) (ok1 : K.ok1 (K.abs s)) (to fr at_ n : Int) (hw : wrongM ⟨4, to, fr, at_, n⟩ = 0) : K.DoOk s w ⟨4, to, fr, at_, n⟩ := by
  have ok := h.ok_of _ ok1
  unfold MemK.DoOk
  obtain ⟨F, hF⟩ : ∃ F, (K.item s).fp = F := ⟨_, rfl⟩
  obtain ⟨g, hg⟩ : ∃ g, w.heap.size = g := ⟨_, rfl⟩
  have hS0 := ((Sep.start hP).blkAt 39 (DoV.cells ⟨4, to, fr, at_, n⟩) (g := g) hg).blkAt 41 #[.int .i64 0, .bool false, .int .i64 0] (g := g + 1) (by simp [hg])
  rw [hF] at hS0 ⊢
  have h8 : (K.regs (K.abs s)).length = 8 := h.r8 _ ok
  have HST := hide (show K.step ⟨4, to, fr, at_, n⟩ (K.abs s) = if K.fErr (K.abs s) (rgA (K.regs (K.abs s)) to) at_ ≠ 0 then (⟨K.fErr (K.abs s) (rgA (K.regs (K.abs s)) to) at_, false, 0⟩, K.abs s) else (⟨0, false, 0⟩, K.put (K.abs s) (rgA (K.regs (K.abs s)) to).2.toNat at_.toNat (rgA (K.regs (K.abs s)) fr)) from by
    unfold MemK.step
    rw [if_neg (by rw [hw]; simp)]
    unfold MemK.kstep
    dsimp only
    rw [if_neg (show ¬(4 : Int) = 1 by decide), if_neg (show ¬(4 : Int) = 2 by decide), if_neg (show ¬(4 : Int) = 3 by decide), if_pos rfl])
  obtain ⟨res, hres⟩ : ∃ r, K.step ⟨4, to, fr, at_, n⟩ (K.abs s) = r := ⟨_, rfl⟩
  rw [hres] at HST ⊢
  clear hres
  have HCW := wrong_any ((w.alloc (.cells (DoV.cells ⟨4, to, fr, at_, n⟩) 39)).alloc (.cells #[.int .i64 0, .bool false, .int .i64 0] 41)) ⟨4, to, fr, at_, n⟩
  rw [hw] at HCW
  replace HCW := hide HCW
  obtain ⟨t0, t1⟩ := wrongM_to hw (by show (4 : Int) ≠ 7; decide)
  dsimp only at t0 t1
  obtain ⟨R, rfl⟩ := int_nat t0
  have hR : R < 8 := by omega
  obtain ⟨u0, u1⟩ := wrongM_fr hw (by show (4 : Int) ≠ 1; decide) (by show (4 : Int) ≠ 2; decide)
  dsimp only at u0 u1
  obtain ⟨Q, rfl⟩ := int_nat u0
  have hQ : Q < 8 := by omega
  have HS0 := hide hS0
  unfold DoV.cells at HCW HS0 ⊢
  dsimp only at HCW HS0 ⊢
  obtain ⟨a1, a2, a3, a4⟩ := HS0.out.rules 1 (g := g) (t := 39) rfl
  have e0 := (a1 0).trans (show _ = some (.int .i64 4) from rfl)
  have e1 := (a1 1).trans (show _ = some (.int .i64 _) from rfl)
  have e2 := (a1 2).trans (show _ = some (.int .i64 _) from rfl)
  have e3 := (a1 3).trans (show _ = some (.int .i64 _) from rfl)
  have e4 := (a1 4).trans (show _ = some (.int .i64 _) from rfl)
  have HOK := hide ok
  have HOK1 := hide ok1
  have HH := hide h
  clear hS0 hF hP a1 a4 hw ok ok1 h
  go_enter Try.func43, Try.ntmps43
  go_wp2_with fail
  refine HCW.out.mono ?_
  rintro e w1 ⟨rfl, hb1⟩
  have hS1 := HS0.out.below hb1
  obtain ⟨b1, b2, b3, b4⟩ := hS1.rules 2 (g := g + 1) (t := 41) rfl
  have f0 := (b1 0).trans (show _ = some (.int .i64 0) from rfl)
  have f1 := (b1 1).trans (show _ = some (.bool false) from rfl)
  have f2 := (b1 2).trans (show _ = some (.int .i64 0) from rfl)
  obtain ⟨a1, a2', a3', a4⟩ := hS1.rules 1 (g := g) (t := 39) rfl
  have e0 := (a1 0).trans (show _ = some (.int .i64 4) from rfl)
  have e1 := (a1 1).trans (show _ = some (.int .i64 _) from rfl)
  have e2 := (a1 2).trans (show _ = some (.int .i64 _) from rfl)
  have e3 := (a1 3).trans (show _ = some (.int .i64 _) from rfl)
  have e4 := (a1 4).trans (show _ = some (.int .i64 _) from rfl)
  clear a1 a4 b1 b4
  have HS1 := hide hS1
  clear hb1 HS0 HCW a2 a3
  have hP1 : (K.item s).P w1 := hS1.get 0 rfl
  obtain ⟨i3, i4, i1, i2⟩ := K.cells hP1 h8 R hR
  have hvv := K.vok_rg HH.out HOK.out (R : Int)
  obtain ⟨v, hv⟩ : ∃ v, rgA (K.regs (K.abs s)) (R : Int) = v := ⟨_, rfl⟩
  rw [hv] at i3 i4 hvv HST
  have HVV := hide hvv
  clear hv hS1 hP1 hvv
  obtain ⟨bv, mv⟩ := v
  dsimp only at i3 i4
  go_wp2_with fail
  have q1 : g ≠ w1.heap.size := by omega
  have q2 : K.Bm ≠ w1.heap.size := by omega
  go_region_held3 (fun w' => w'.cell? ⟨g, 1, none⟩ = some (.int .i64 (R : Int)) ∧ w'.cell? ⟨K.Bm, R * 2, none⟩ = some (.bool bv) ∧ w'.cell? ⟨K.Bm, R * 2 + 1, none⟩ = some (.int .i64 mv)) (simp (config := { maxDischargeDepth := 8 }) [*, World.cell?_alloc_some]) (fail)
  have hSv := (HS1.out.blkAt 107 #[.bool bv, .int .i64 mv] (g := w1.heap.size) rfl).drew
  have CF := kfield_any K HH.out (hSv.get 0 rfl) HOK.out (bv, mv) at_ HVV.out
  dsimp only at CF
  obtain ⟨x, hx⟩ : ∃ x, K.fErr (K.abs s) (bv, mv) at_ = x := ⟨_, rfl⟩
  rw [hx] at CF HST
  have HX := hide hx
  have HCF := hide CF
  obtain ⟨gv, hgv⟩ : ∃ g, w1.heap.size = g := ⟨_, rfl⟩
  obtain ⟨v1, v2, v3, _⟩ := hSv.rules 3 (g := w1.heap.size) (t := 107) rfl
  have v4 := (v1 0).trans (show _ = some (.bool bv) from rfl)
  have v5 := (v1 1).trans (show _ = some (.int .i64 mv) from rfl)
  obtain ⟨b1, b2, b3, b4⟩ := hSv.rules 2 (g := g + 1) (t := 41) rfl
  have f0 := (b1 0).trans (show _ = some (.int .i64 0) from rfl)
  have f1 := (b1 1).trans (show _ = some (.bool false) from rfl)
  have f2 := (b1 2).trans (show _ = some (.int .i64 0) from rfl)
  obtain ⟨a1, a2', a3', a4⟩ := hSv.rules 1 (g := g) (t := 39) rfl
  have e0 := (a1 0).trans (show _ = some (.int .i64 4) from rfl)
  have e1 := (a1 1).trans (show _ = some (.int .i64 _) from rfl)
  have e2 := (a1 2).trans (show _ = some (.int .i64 _) from rfl)
  have e3 := (a1 3).trans (show _ = some (.int .i64 _) from rfl)
  have e4 := (a1 4).trans (show _ = some (.int .i64 _) from rfl)
  clear a1 a4 b1 b4
  have HSV := hide hSv
  clear hSv CF hx v1
  obtain ⟨W, hW⟩ : ∃ W, (w1.alloc (.cells #[.bool bv, .int .i64 mv] 107)).drew = W := ⟨_, rfl⟩
  rw [hW] at HSV HCF v2 v3 v4 v5 f0 f1 f2 e0 e1 e2 e3 e4 ⊢
  clear hW q1 q2 i1 i2 i3 i4
  try rw [hgv] at v4
  try rw [hgv] at v5
  try rw [hgv] at HSV
  try rw [hgv] at v2
  rw [hgv]
  clear hgv
  go_wp2_with fail
  refine HCF.out.mono ?_
  rintro e w3 ⟨rfl, hb3⟩
  have hS3 := HSV.out.below hb3
  obtain ⟨b1, b2, b3, b4⟩ := hS3.rules 2 (g := g + 1) (t := 41) rfl
  have f0 := (b1 0).trans (show _ = some (.int .i64 0) from rfl)
  have f1 := (b1 1).trans (show _ = some (.bool false) from rfl)
  have f2 := (b1 2).trans (show _ = some (.int .i64 0) from rfl)
  obtain ⟨a1, a2', a3', a4⟩ := hS3.rules 1 (g := g) (t := 39) rfl
  have e0 := (a1 0).trans (show _ = some (.int .i64 4) from rfl)
  have e1 := (a1 1).trans (show _ = some (.int .i64 _) from rfl)
  have e2 := (a1 2).trans (show _ = some (.int .i64 _) from rfl)
  have e3 := (a1 3).trans (show _ = some (.int .i64 _) from rfl)
  have e4 := (a1 4).trans (show _ = some (.int .i64 _) from rfl)
  clear a1 a4 b1 b4
  obtain ⟨v1, v2, v3, _⟩ := hS3.rules 3 (g := gv) (t := 107) rfl
  have v4 := (v1 0).trans (show _ = some (.bool bv) from rfl)
  have v5 := (v1 1).trans (show _ = some (.int .i64 mv) from rfl)
  clear hb3 HSV HCF v1
  have HS3 := hide hS3
  clear hS3 HS1
  by_cases hxz : x = 0
  · subst hxz
    obtain ⟨rfl, i, k, fs, rfl, rfl, hfs, hk, h4, h1k⟩ := kerr_facts K HH.out HOK.out HVV.out HX.out
    obtain ⟨i3, i4, i1, i2⟩ := K.cells (HS3.out.get 0 rfl) h8 Q hQ
    have hS3d := HS3.out.drew
    have huu := K.vok_rg HH.out HOK.out (Q : Int)
    obtain ⟨u, hu⟩ : ∃ u, rgA (K.regs (K.abs s)) (Q : Int) = u := ⟨_, rfl⟩
    rw [hu] at i3 i4 HST huu
    have HU := hide hu
    have CP := HH.out.cP s w3.drew i k fs u hk (hS3d.get 0 rfl) HOK.out hfs huu
    have hme := HH.out.mP s w3.drew (hS3d.get 0 rfl)
    have hent := HH.out.eP
    have HRP := hide (HH.out.regs_put (K.abs s) i k u)
    obtain ⟨fP, hfP⟩ : ∃ x, K.fP = x := ⟨_, rfl⟩
    obtain ⟨rP, hrP⟩ : ∃ x, K.rP s = x := ⟨_, rfl⟩
    simp only [hfP, hrP] at CP hme hent
    replace CP := hide CP
    obtain ⟨bu, mu⟩ := u
    dsimp only at i3 i4 CP
    have HFS := hide hfs
    clear hS3d hu HVV huu hfP hrP hfs
    go_wp2_with fail
    go_region_held3 (fun w' => w'.cell? ⟨K.Bm, 16, none⟩ = some (.iface K.T K.p) ∧ w'.cell? ⟨gv, 1, none⟩ = some (.int .i64 (i : Int)) ∧ w'.cell? ⟨g, 3, none⟩ = some (.int .i64 (k : Int)) ∧ w'.cell? ⟨g, 2, none⟩ = some (.int .i64 (Q : Int)) ∧ w'.cell? ⟨K.Bm, Q * 2, none⟩ = some (.bool bu) ∧ w'.cell? ⟨K.Bm, Q * 2 + 1, none⟩ = some (.int .i64 mu)) (go_keep)
      (((with_reducible refine CP.out.mono ?_); rintro e w4 ⟨⟨u, rfl⟩, s4, hab4, hP4⟩; have hS4 := HS3.out.drew.call 0 rfl hP4; have HAB := hide hab4; have hrg := HRP.out; rw [← hab4] at hrg; obtain ⟨k3, k4, k1, k2⟩ := K.cells (hS4.get 0 rfl) (show (K.regs (K.abs s4)).length = 8 from by rw [hrg]; exact h8) Q hQ; rw [hrg, HU.out] at k3 k4; obtain ⟨a1, _, a3, _⟩ := hS4.rules 1 (g := g) (t := 39) rfl; have k5 := (a1 2).trans (show _ = some (.int .i64 (Q : Int)) from rfl); have k6 := (a1 3).trans (show _ = some (.int .i64 (k : Int)) from rfl); obtain ⟨c1, _, c3, _⟩ := hS4.rules 3 (g := gv) (t := 107) rfl; have k7 := (c1 1).trans (show _ = some (.int .i64 (i : Int)) from rfl); have HS4 := hide hS4; clear hP4 hS4 a1 c1 hrg hab4))
    all_goals
      have hS4 := HS4.out
      obtain ⟨b1, b2, b3, b4⟩ := hS4.rules 2 (g := g + 1) (t := 41) rfl
      have f0 := (b1 0).trans (show _ = some (.int .i64 0) from rfl)
      have f1 := (b1 1).trans (show _ = some (.bool false) from rfl)
      have f2 := (b1 2).trans (show _ = some (.int .i64 0) from rfl)
      clear hS4 b1 b4
      go_wp2_with fail
      have hr := HST.out
      rw [if_neg (by simp)] at hr
      try dsimp only at hr
      rw [show ((i : Int)).toNat = i from by omega, show ((k : Int)).toNat = k from by omega] at hr
      subst hr
      have hF := (((HS4.out).set_ 2 (g := g + 1) (t := 41) rfl 0 (.int .i64 0)).set_ 2 (g := g + 1) (t := 41) rfl 1 (.bool false)).set_ 2 (g := g + 1) (t := 41) rfl 2 (.int .i64 0)
      refine bodyPost_ret (v := .agg #[.int .i64 0, .bool false, .int .i64 0]) (by simp [results, Try.results43, go_sem, f0, f1, f2]) rfl ⟨rfl, s4, HAB.out, hF.sub (by simp)⟩
  · have y1 : (x != 0) = true := by rw [bne_iff_ne]; exact hxz
    go_wp2_with fail
    have hr := HST.out
    rw [if_pos hxz] at hr
    subst hr
    have hF := (((HS3.out).set_ 2 (g := g + 1) (t := 41) rfl 0 (.int .i64 x)).set_ 2 (g := g + 1) (t := 41) rfl 1 (.bool false)).set_ 2 (g := g + 1) (t := 41) rfl 2 (.int .i64 0)
    refine bodyPost_ret (v := .agg #[.int .i64 x, .bool false, .int .i64 0]) (by simp [results, Try.results43, go_sem, f0, f1, f2]) rfl ⟨rfl, s, rfl, hF.sub (by simp)⟩
end Go.Proofs.Ytjphckfbbiehdaa

namespace Go.Proofs.Ytjphckfbbiehdaa
open Go.RowKit

set_option maxRecDepth 100000 in
set_option maxHeartbeats 16000000 in
theorem kdo_5 (K : MemK) (h : K.Ok) {s : K.St} {w : World} (hP : (K.item s).P w) (ok1 : K.ok1 (K.abs s)) (to fr at_ n : Int) (hw : wrongM ⟨5, to, fr, at_, n⟩ = 0) : K.DoOk s w ⟨5, to, fr, at_, n⟩ := by
  have ok := h.ok_of _ ok1
  unfold MemK.DoOk
  obtain ⟨F, hF⟩ : ∃ F, (K.item s).fp = F := ⟨_, rfl⟩
  obtain ⟨g, hg⟩ : ∃ g, w.heap.size = g := ⟨_, rfl⟩
  have hS0 := ((Sep.start hP).blkAt 39 (DoV.cells ⟨5, to, fr, at_, n⟩) (g := g) hg).blkAt 41 #[.int .i64 0, .bool false, .int .i64 0] (g := g + 1) (by simp [hg])
  rw [hF] at hS0 ⊢
  have h8 : (K.regs (K.abs s)).length = 8 := h.r8 _ ok
  have HST := hide (show K.step ⟨5, to, fr, at_, n⟩ (K.abs s) = if K.fErr (K.abs s) (rgA (K.regs (K.abs s)) fr) at_ ≠ 0 then (⟨K.fErr (K.abs s) (rgA (K.regs (K.abs s)) fr) at_, false, 0⟩, K.abs s) else (⟨0, false, 0⟩, K.sh (K.abs s) to.toNat (((K.fld (K.abs s) (rgA (K.regs (K.abs s)) fr).2.toNat).getD []).getD at_.toNat (false, 0))) from by
    unfold MemK.step
    rw [if_neg (by rw [hw]; simp)]
    unfold MemK.kstep
    dsimp only
    rw [if_neg (show ¬(5 : Int) = 1 by decide), if_neg (show ¬(5 : Int) = 2 by decide), if_neg (show ¬(5 : Int) = 3 by decide), if_neg (show ¬(5 : Int) = 4 by decide), if_pos rfl])
  obtain ⟨res, hres⟩ : ∃ r, K.step ⟨5, to, fr, at_, n⟩ (K.abs s) = r := ⟨_, rfl⟩
  rw [hres] at HST ⊢
  clear hres
  have HCW := wrong_any ((w.alloc (.cells (DoV.cells ⟨5, to, fr, at_, n⟩) 39)).alloc (.cells #[.int .i64 0, .bool false, .int .i64 0] 41)) ⟨5, to, fr, at_, n⟩
  rw [hw] at HCW
  replace HCW := hide HCW
  obtain ⟨t0, t1⟩ := wrongM_to hw (by show (5 : Int) ≠ 7; decide)
  dsimp only at t0 t1
  obtain ⟨R, rfl⟩ := int_nat t0
  have hR : R < 8 := by omega
  rw [show ((R : Int)).toNat = R from by omega] at HST
  obtain ⟨u0, u1⟩ := wrongM_fr hw (by show (5 : Int) ≠ 1; decide) (by show (5 : Int) ≠ 2; decide)
  dsimp only at u0 u1
  obtain ⟨Q, rfl⟩ := int_nat u0
  have hQ : Q < 8 := by omega
  have HS0 := hide hS0
  unfold DoV.cells at HCW HS0 ⊢
  dsimp only at HCW HS0 ⊢
  obtain ⟨a1, a2, a3, a4⟩ := HS0.out.rules 1 (g := g) (t := 39) rfl
  have e0 := (a1 0).trans (show _ = some (.int .i64 5) from rfl)
  have e1 := (a1 1).trans (show _ = some (.int .i64 _) from rfl)
  have e2 := (a1 2).trans (show _ = some (.int .i64 _) from rfl)
  have e3 := (a1 3).trans (show _ = some (.int .i64 _) from rfl)
  have e4 := (a1 4).trans (show _ = some (.int .i64 _) from rfl)
  have HOK := hide ok
  have HOK1 := hide ok1
  have HH := hide h
  clear hS0 hF hP a1 a4 hw ok ok1 h
  go_enter Try.func43, Try.ntmps43
  go_wp2_with fail
  refine HCW.out.mono ?_
  rintro e w1 ⟨rfl, hb1⟩
  have hS1 := HS0.out.below hb1
  obtain ⟨b1, b2, b3, b4⟩ := hS1.rules 2 (g := g + 1) (t := 41) rfl
  have f0 := (b1 0).trans (show _ = some (.int .i64 0) from rfl)
  have f1 := (b1 1).trans (show _ = some (.bool false) from rfl)
  have f2 := (b1 2).trans (show _ = some (.int .i64 0) from rfl)
  obtain ⟨a1, a2', a3', a4⟩ := hS1.rules 1 (g := g) (t := 39) rfl
  have e0 := (a1 0).trans (show _ = some (.int .i64 5) from rfl)
  have e1 := (a1 1).trans (show _ = some (.int .i64 _) from rfl)
  have e2 := (a1 2).trans (show _ = some (.int .i64 _) from rfl)
  have e3 := (a1 3).trans (show _ = some (.int .i64 _) from rfl)
  have e4 := (a1 4).trans (show _ = some (.int .i64 _) from rfl)
  clear a1 a4 b1 b4
  have HS1 := hide hS1
  clear hb1 HS0 HCW a2 a3
  have hP1 : (K.item s).P w1 := hS1.get 0 rfl
  obtain ⟨i3, i4, i1, i2⟩ := K.cells hP1 h8 Q hQ
  have hvv := K.vok_rg HH.out HOK.out (Q : Int)
  obtain ⟨v, hv⟩ : ∃ v, rgA (K.regs (K.abs s)) (Q : Int) = v := ⟨_, rfl⟩
  rw [hv] at i3 i4 hvv HST
  have HVV := hide hvv
  clear hv hS1 hP1 hvv
  obtain ⟨bv, mv⟩ := v
  dsimp only at i3 i4
  go_wp2_with fail
  have q1 : g ≠ w1.heap.size := by omega
  have q2 : K.Bm ≠ w1.heap.size := by omega
  go_region_held3 (fun w' => w'.cell? ⟨g, 2, none⟩ = some (.int .i64 (Q : Int)) ∧ w'.cell? ⟨K.Bm, Q * 2, none⟩ = some (.bool bv) ∧ w'.cell? ⟨K.Bm, Q * 2 + 1, none⟩ = some (.int .i64 mv)) (simp (config := { maxDischargeDepth := 8 }) [*, World.cell?_alloc_some]) (fail)
  have hSv := (HS1.out.blkAt 107 #[.bool bv, .int .i64 mv] (g := w1.heap.size) rfl).drew
  have CF := kfield_any K HH.out (hSv.get 0 rfl) HOK.out (bv, mv) at_ HVV.out
  dsimp only at CF
  obtain ⟨x, hx⟩ : ∃ x, K.fErr (K.abs s) (bv, mv) at_ = x := ⟨_, rfl⟩
  rw [hx] at CF HST
  have HX := hide hx
  have HCF := hide CF
  obtain ⟨gv, hgv⟩ : ∃ g, w1.heap.size = g := ⟨_, rfl⟩
  obtain ⟨v1, v2, v3, _⟩ := hSv.rules 3 (g := w1.heap.size) (t := 107) rfl
  have v4 := (v1 0).trans (show _ = some (.bool bv) from rfl)
  have v5 := (v1 1).trans (show _ = some (.int .i64 mv) from rfl)
  obtain ⟨b1, b2, b3, b4⟩ := hSv.rules 2 (g := g + 1) (t := 41) rfl
  have f0 := (b1 0).trans (show _ = some (.int .i64 0) from rfl)
  have f1 := (b1 1).trans (show _ = some (.bool false) from rfl)
  have f2 := (b1 2).trans (show _ = some (.int .i64 0) from rfl)
  obtain ⟨a1, a2', a3', a4⟩ := hSv.rules 1 (g := g) (t := 39) rfl
  have e0 := (a1 0).trans (show _ = some (.int .i64 5) from rfl)
  have e1 := (a1 1).trans (show _ = some (.int .i64 _) from rfl)
  have e2 := (a1 2).trans (show _ = some (.int .i64 _) from rfl)
  have e3 := (a1 3).trans (show _ = some (.int .i64 _) from rfl)
  have e4 := (a1 4).trans (show _ = some (.int .i64 _) from rfl)
  clear a1 a4 b1 b4
  have HSV := hide hSv
  clear hSv CF hx v1
  obtain ⟨W, hW⟩ : ∃ W, (w1.alloc (.cells #[.bool bv, .int .i64 mv] 107)).drew = W := ⟨_, rfl⟩
  rw [hW] at HSV HCF v2 v3 v4 v5 f0 f1 f2 e0 e1 e2 e3 e4 ⊢
  clear hW q1 q2 i1 i2 i3 i4
  try rw [hgv] at v4
  try rw [hgv] at v5
  try rw [hgv] at HSV
  try rw [hgv] at v2
  rw [hgv]
  clear hgv
  go_wp2_with fail
  refine HCF.out.mono ?_
  rintro e w3 ⟨rfl, hb3⟩
  have hS3 := HSV.out.below hb3
  obtain ⟨b1, b2, b3, b4⟩ := hS3.rules 2 (g := g + 1) (t := 41) rfl
  have f0 := (b1 0).trans (show _ = some (.int .i64 0) from rfl)
  have f1 := (b1 1).trans (show _ = some (.bool false) from rfl)
  have f2 := (b1 2).trans (show _ = some (.int .i64 0) from rfl)
  obtain ⟨a1, a2', a3', a4⟩ := hS3.rules 1 (g := g) (t := 39) rfl
  have e0 := (a1 0).trans (show _ = some (.int .i64 5) from rfl)
  have e1 := (a1 1).trans (show _ = some (.int .i64 _) from rfl)
  have e2 := (a1 2).trans (show _ = some (.int .i64 _) from rfl)
  have e3 := (a1 3).trans (show _ = some (.int .i64 _) from rfl)
  have e4 := (a1 4).trans (show _ = some (.int .i64 _) from rfl)
  clear a1 a4 b1 b4
  obtain ⟨v1, v2, v3, _⟩ := hS3.rules 3 (g := gv) (t := 107) rfl
  have v4 := (v1 0).trans (show _ = some (.bool bv) from rfl)
  have v5 := (v1 1).trans (show _ = some (.int .i64 mv) from rfl)
  clear hb3 HSV HCF v1
  have HS3 := hide hS3
  clear hS3 HS1
  by_cases hxz : x = 0
  · subst hxz
    obtain ⟨rfl, i, k, fs, rfl, rfl, hfs, hk, h4, h1k⟩ := kerr_facts K HH.out HOK.out HVV.out HX.out
    obtain ⟨i3, i4, i1, i2⟩ := K.cells (HS3.out.get 0 rfl) h8 Q hQ
    have hS3d := HS3.out.drew
    obtain ⟨u, hu⟩ : ∃ u, fs[k] = u := ⟨_, rfl⟩
    have huu : K.vok (K.abs s) u := by rw [← hu]; exact HH.out.vf _ _ _ _ HOK.out hfs (List.getElem_mem hk)
    have CP := HH.out.cG s w3.drew i k fs hk (hS3d.get 0 rfl) HOK.out hfs
    rw [hu] at CP
    have HU := hide (show fs[k]? = some u from (List.getElem?_eq_getElem hk).trans (congrArg some hu))
    have CMG := hide (fun (W : World) (hP : (K.item s).P W) => kset_any K HH.out hP HOK.out u hR huu)
    have hme := HH.out.mG s w3.drew (hS3d.get 0 rfl)
    have hent := HH.out.eG
    obtain ⟨fG, hfG⟩ : ∃ x, K.fG = x := ⟨_, rfl⟩
    obtain ⟨rG, hrG⟩ : ∃ x, K.rG s = x := ⟨_, rfl⟩
    simp only [hfG, hrG] at CP hme hent
    replace CP := hide CP
    have HRS := hide (show (K.regs (K.setr (K.hold (K.abs s) R u) R u)).length = 8 from by rw [HH.out.regs_set, HH.out.regs_hold, List.length_set]; exact h8)
    obtain ⟨bu, mu⟩ := u
    dsimp only at CP CMG HRS
    have HFS := hide hfs
    clear hS3d hu HVV i3 i4 huu hfG hrG hfs
    go_wp2_with fail
    go_region_held3 (fun w' => w'.cell? ⟨K.Bm, 16, none⟩ = some (.iface K.T K.p) ∧ w'.cell? ⟨gv, 1, none⟩ = some (.int .i64 (i : Int)) ∧ w'.cell? ⟨g, 3, none⟩ = some (.int .i64 (k : Int)) ∧ w'.cell? ⟨g, 1, none⟩ = some (.int .i64 (R : Int))) (go_keep)
      (first
       | ((with_reducible refine CP.out.mono ?_); rintro e w4 ⟨rfl, hb4⟩; have hS4 := HS3.out.drew.below hb4; obtain ⟨_, _, k1, k2⟩ := K.cells (hS4.get 0 rfl) h8 Q hQ; obtain ⟨a1, _, a3, _⟩ := hS4.rules 1 (g := g) (t := 39) rfl; have k5 := (a1 1).trans (show _ = some (.int .i64 (R : Int)) from rfl); have k6 := (a1 3).trans (show _ = some (.int .i64 (k : Int)) from rfl); obtain ⟨c1, _, c3, _⟩ := hS4.rules 3 (g := gv) (t := 107) rfl; have k7 := (c1 1).trans (show _ = some (.int .i64 (i : Int)) from rfl); have CM := hide (CMG.out _ (hS4.get 0 rfl)); have HS4 := hide hS4; clear hb4 hS4 a1 c1 hme)
       | (go_at_call 108; (with_reducible refine CM.out.mono ?_); rintro e w5 ⟨⟨u, rfl⟩, s5, hab5, hP5⟩; have hS5 := HS4.out.call 0 rfl hP5; have HAB := hide hab5; obtain ⟨_, _, k1, k2⟩ := K.cells (hS5.get 0 rfl) (by rw [HAB.out]; exact HRS.out) Q hQ; obtain ⟨a1, _, a3, _⟩ := hS5.rules 1 (g := g) (t := 39) rfl; have k5 := (a1 1).trans (show _ = some (.int .i64 (R : Int)) from rfl); have k6 := (a1 3).trans (show _ = some (.int .i64 (k : Int)) from rfl); obtain ⟨c1, _, c3, _⟩ := hS5.rules 3 (g := gv) (t := 107) rfl; have k7 := (c1 1).trans (show _ = some (.int .i64 (i : Int)) from rfl); have HS5 := hide hS5; clear hP5 hS5 a1 c1 hab5))
    all_goals
      have hS5 := HS5.out
      obtain ⟨b1, b2, b3, b4⟩ := hS5.rules 2 (g := g + 1) (t := 41) rfl
      have f0 := (b1 0).trans (show _ = some (.int .i64 0) from rfl)
      have f1 := (b1 1).trans (show _ = some (.bool false) from rfl)
      have f2 := (b1 2).trans (show _ = some (.int .i64 0) from rfl)
      clear hS5 b1 b4
      go_wp2_with fail
      have hr := HST.out
      rw [if_neg (by simp)] at hr
      try dsimp only at hr
      rw [show ((i : Int)).toNat = i from by omega, show ((k : Int)).toNat = k from by omega, HFS.out, Option.getD_some, List.getD_eq_getElem?_getD, HU.out, Option.getD_some] at hr
      subst hr
      have hF := (((HS5.out).set_ 2 (g := g + 1) (t := 41) rfl 0 (.int .i64 0)).set_ 2 (g := g + 1) (t := 41) rfl 1 (.bool false)).set_ 2 (g := g + 1) (t := 41) rfl 2 (.int .i64 0)
      refine bodyPost_ret (v := .agg #[.int .i64 0, .bool false, .int .i64 0]) (by simp [results, Try.results43, go_sem, f0, f1, f2]) rfl ⟨rfl, s5, HAB.out, hF.sub (by simp)⟩
  · have y1 : (x != 0) = true := by rw [bne_iff_ne]; exact hxz
    go_wp2_with fail
    have hr := HST.out
    rw [if_pos hxz] at hr
    subst hr
    have hF := (((HS3.out).set_ 2 (g := g + 1) (t := 41) rfl 0 (.int .i64 x)).set_ 2 (g := g + 1) (t := 41) rfl 1 (.bool false)).set_ 2 (g := g + 1) (t := 41) rfl 2 (.int .i64 0)
    refine bodyPost_ret (v := .agg #[.int .i64 x, .bool false, .int .i64 0]) (by simp [results, Try.results43, go_sem, f0, f1, f2]) rfl ⟨rfl, s, rfl, hF.sub (by simp)⟩

set_option maxRecDepth 100000 in
set_option maxHeartbeats 16000000 in
theorem kdo_6 (K : MemK) (h : K.Ok) {s : K.St} {w : World} (hP : (K.item s).P w) (ok1 : K.ok1 (K.abs s)) (to fr at_ n : Int) (hw : wrongM ⟨6, to, fr, at_, n⟩ = 0) : K.DoOk s w ⟨6, to, fr, at_, n⟩ := by
  have ok := h.ok_of _ ok1
  unfold MemK.DoOk
  obtain ⟨F, hF⟩ : ∃ F, (K.item s).fp = F := ⟨_, rfl⟩
  obtain ⟨g, hg⟩ : ∃ g, w.heap.size = g := ⟨_, rfl⟩
  have hS0 := ((Sep.start hP).blkAt 39 (DoV.cells ⟨6, to, fr, at_, n⟩) (g := g) hg).blkAt 41 #[.int .i64 0, .bool false, .int .i64 0] (g := g + 1) (by simp [hg])
  rw [hF] at hS0 ⊢
  have h8 : (K.regs (K.abs s)).length = 8 := h.r8 _ ok
  have HST := hide (show K.step ⟨6, to, fr, at_, n⟩ (K.abs s) = (⟨0, false, if rgA (K.regs (K.abs s)) to = rgA (K.regs (K.abs s)) fr then 1 else 0⟩, K.abs s) from by
    unfold MemK.step
    rw [if_neg (by rw [hw]; simp)]
    unfold MemK.kstep
    dsimp only
    rw [if_neg (show ¬(6 : Int) = 1 by decide), if_neg (show ¬(6 : Int) = 2 by decide), if_neg (show ¬(6 : Int) = 3 by decide), if_neg (show ¬(6 : Int) = 4 by decide), if_neg (show ¬(6 : Int) = 5 by decide), if_pos rfl])
  obtain ⟨res, hres⟩ : ∃ r, K.step ⟨6, to, fr, at_, n⟩ (K.abs s) = r := ⟨_, rfl⟩
  rw [hres] at HST ⊢
  clear hres
  have HCW := wrong_any ((w.alloc (.cells (DoV.cells ⟨6, to, fr, at_, n⟩) 39)).alloc (.cells #[.int .i64 0, .bool false, .int .i64 0] 41)) ⟨6, to, fr, at_, n⟩
  rw [hw] at HCW
  replace HCW := hide HCW
  obtain ⟨t0, t1⟩ := wrongM_to hw (by show (6 : Int) ≠ 7; decide)
  dsimp only at t0 t1
  obtain ⟨R, rfl⟩ := int_nat t0
  have hR : R < 8 := by omega
  obtain ⟨u0, u1⟩ := wrongM_fr hw (by show (6 : Int) ≠ 1; decide) (by show (6 : Int) ≠ 2; decide)
  dsimp only at u0 u1
  obtain ⟨Q, rfl⟩ := int_nat u0
  have hQ : Q < 8 := by omega
  have HS0 := hide hS0
  unfold DoV.cells at HCW HS0 ⊢
  dsimp only at HCW HS0 ⊢
  obtain ⟨a1, a2, a3, a4⟩ := HS0.out.rules 1 (g := g) (t := 39) rfl
  have e0 := (a1 0).trans (show _ = some (.int .i64 6) from rfl)
  have e1 := (a1 1).trans (show _ = some (.int .i64 _) from rfl)
  have e2 := (a1 2).trans (show _ = some (.int .i64 _) from rfl)
  have e3 := (a1 3).trans (show _ = some (.int .i64 _) from rfl)
  have e4 := (a1 4).trans (show _ = some (.int .i64 _) from rfl)
  have HOK := hide ok
  have HOK1 := hide ok1
  have HH := hide h
  clear hS0 hF hP a1 a4 hw ok ok1 h
  go_enter Try.func43, Try.ntmps43
  go_wp2_with fail
  refine HCW.out.mono ?_
  rintro e w1 ⟨rfl, hb1⟩
  have hS1 := HS0.out.below hb1
  obtain ⟨b1, b2, b3, b4⟩ := hS1.rules 2 (g := g + 1) (t := 41) rfl
  have f0 := (b1 0).trans (show _ = some (.int .i64 0) from rfl)
  have f1 := (b1 1).trans (show _ = some (.bool false) from rfl)
  have f2 := (b1 2).trans (show _ = some (.int .i64 0) from rfl)
  obtain ⟨a1, a2', a3', a4⟩ := hS1.rules 1 (g := g) (t := 39) rfl
  have e0 := (a1 0).trans (show _ = some (.int .i64 6) from rfl)
  have e1 := (a1 1).trans (show _ = some (.int .i64 _) from rfl)
  have e2 := (a1 2).trans (show _ = some (.int .i64 _) from rfl)
  have e3 := (a1 3).trans (show _ = some (.int .i64 _) from rfl)
  have e4 := (a1 4).trans (show _ = some (.int .i64 _) from rfl)
  clear a1 a4 b1 b4
  have HS1 := hide hS1
  clear hb1 HS0 HCW a2 a3
  have hP1 : (K.item s).P w1 := hS1.get 0 rfl
  obtain ⟨i3, i4, _, i2⟩ := K.cells hP1 h8 Q hQ
  obtain ⟨i5, i6, _, _⟩ := K.cells hP1 h8 R hR
  obtain ⟨v, hv⟩ : ∃ v, rgA (K.regs (K.abs s)) (R : Int) = v := ⟨_, rfl⟩
  rw [hv] at i5 i6 HST
  obtain ⟨u, hu⟩ : ∃ v, rgA (K.regs (K.abs s)) (Q : Int) = v := ⟨_, rfl⟩
  rw [hu] at i3 i4 HST
  obtain ⟨bv, mv⟩ := v
  obtain ⟨bu, mu⟩ := u
  dsimp only at i3 i4 i5 i6
  obtain ⟨b, hb⟩ : ∃ b, decide (((bv, mv) : Val) = (bu, mu)) = b := ⟨_, rfl⟩
  have heq : ∀ W, (binOp .eql 107 (.agg #[.bool bv, .int .i64 mv]) (.agg #[.bool bu, .int .i64 mu])).run Try.prog W = .ok (.bool b) W := fun W => by rw [eq_val, hb]
  have hgd := fun W x y => guard_val W x y bv bu mv mu
  have HB := hide hb
  clear hb
  clear hv hu hP1 hS1
  go_wp2_with fail
  go_region_held3 (fun w' => w'.cell? ⟨g, 1, none⟩ = some (.int .i64 (R : Int)) ∧ w'.cell? ⟨g, 2, none⟩ = some (.int .i64 (Q : Int)) ∧ w'.cell? ⟨K.Bm, Q * 2, none⟩ = some (.bool bu) ∧ w'.cell? ⟨K.Bm, Q * 2 + 1, none⟩ = some (.int .i64 mu) ∧ w'.cell? ⟨K.Bm, R * 2, none⟩ = some (.bool bv) ∧ w'.cell? ⟨K.Bm, R * 2 + 1, none⟩ = some (.int .i64 mv)) (go_keep) (fail)
  cases b
  · go_wp2_with fail
    have hr := HST.out
    rw [if_neg (of_decide_eq_false HB.out)] at hr
    subst hr
    have hF := (((HS1.out.drew).set_ 2 (g := g + 1) (t := 41) rfl 0 (.int .i64 0)).set_ 2 (g := g + 1) (t := 41) rfl 1 (.bool false)).set_ 2 (g := g + 1) (t := 41) rfl 2 (.int .i64 0)
    refine bodyPost_ret (v := .agg #[.int .i64 0, .bool false, .int .i64 0]) (by simp [results, Try.results43, go_sem, f0, f1, f2]) rfl ⟨rfl, s, rfl, hF.sub (by simp)⟩
  · go_wp2_with fail
    have hr := HST.out
    rw [if_pos (of_decide_eq_true HB.out)] at hr
    subst hr
    have hF := (((HS1.out.drew).set_ 2 (g := g + 1) (t := 41) rfl 0 (.int .i64 0)).set_ 2 (g := g + 1) (t := 41) rfl 1 (.bool false)).set_ 2 (g := g + 1) (t := 41) rfl 2 (.int .i64 1)
    refine bodyPost_ret (v := .agg #[.int .i64 0, .bool false, .int .i64 1]) (by simp [results, Try.results43, go_sem, f0, f1, f2]) rfl ⟨rfl, s, rfl, hF.sub (by simp)⟩

set_option maxRecDepth 100000 in
set_option maxHeartbeats 16000000 in
theorem kdo_7 (K : MemK) (h : K.Ok) {s : K.St} {w : World} (hP : (K.item s).P w) (ok1 : K.ok1 (K.abs s)) (to fr at_ n : Int) (hw : wrongM ⟨7, to, fr, at_, n⟩ = 0) : K.DoOk s w ⟨7, to, fr, at_, n⟩ := by
  have ok := h.ok_of _ ok1
  unfold MemK.DoOk
  obtain ⟨F, hF⟩ : ∃ F, (K.item s).fp = F := ⟨_, rfl⟩
  obtain ⟨g, hg⟩ : ∃ g, w.heap.size = g := ⟨_, rfl⟩
  have hS0 := ((Sep.start hP).blkAt 39 (DoV.cells ⟨7, to, fr, at_, n⟩) (g := g) hg).blkAt 41 #[.int .i64 0, .bool false, .int .i64 0] (g := g + 1) (by simp [hg])
  rw [hF] at hS0 ⊢
  have h8 : (K.regs (K.abs s)).length = 8 := h.r8 _ ok
  have HST := hide (show K.step ⟨7, to, fr, at_, n⟩ (K.abs s) = (⟨0, (rgA (K.regs (K.abs s)) fr).1, if (rgA (K.regs (K.abs s)) fr).1 = true then K.len (K.abs s) (rgA (K.regs (K.abs s)) fr).2 else (rgA (K.regs (K.abs s)) fr).2⟩, K.abs s) from by
    unfold MemK.step
    rw [if_neg (by rw [hw]; simp)]
    unfold MemK.kstep
    dsimp only
    rw [if_neg (show ¬(7 : Int) = 1 by decide), if_neg (show ¬(7 : Int) = 2 by decide), if_neg (show ¬(7 : Int) = 3 by decide), if_neg (show ¬(7 : Int) = 4 by decide), if_neg (show ¬(7 : Int) = 5 by decide), if_neg (show ¬(7 : Int) = 6 by decide)])
  obtain ⟨res, hres⟩ : ∃ r, K.step ⟨7, to, fr, at_, n⟩ (K.abs s) = r := ⟨_, rfl⟩
  rw [hres] at HST ⊢
  clear hres
  have HCW := wrong_any ((w.alloc (.cells (DoV.cells ⟨7, to, fr, at_, n⟩) 39)).alloc (.cells #[.int .i64 0, .bool false, .int .i64 0] 41)) ⟨7, to, fr, at_, n⟩
  rw [hw] at HCW
  replace HCW := hide HCW
  obtain ⟨u0, u1⟩ := wrongM_fr hw (by show (7 : Int) ≠ 1; decide) (by show (7 : Int) ≠ 2; decide)
  dsimp only at u0 u1
  obtain ⟨Q, rfl⟩ := int_nat u0
  have hQ : Q < 8 := by omega
  have HS0 := hide hS0
  unfold DoV.cells at HCW HS0 ⊢
  dsimp only at HCW HS0 ⊢
  obtain ⟨a1, a2, a3, a4⟩ := HS0.out.rules 1 (g := g) (t := 39) rfl
  have e0 := (a1 0).trans (show _ = some (.int .i64 7) from rfl)
  have e1 := (a1 1).trans (show _ = some (.int .i64 _) from rfl)
  have e2 := (a1 2).trans (show _ = some (.int .i64 _) from rfl)
  have e3 := (a1 3).trans (show _ = some (.int .i64 _) from rfl)
  have e4 := (a1 4).trans (show _ = some (.int .i64 _) from rfl)
  have HOK := hide ok
  have HOK1 := hide ok1
  have HH := hide h
  clear hS0 hF hP a1 a4 hw ok ok1 h
  go_enter Try.func43, Try.ntmps43
  go_wp2_with fail
  refine HCW.out.mono ?_
  rintro e w1 ⟨rfl, hb1⟩
  have hS1 := HS0.out.below hb1
  obtain ⟨b1, b2, b3, b4⟩ := hS1.rules 2 (g := g + 1) (t := 41) rfl
  have f0 := (b1 0).trans (show _ = some (.int .i64 0) from rfl)
  have f1 := (b1 1).trans (show _ = some (.bool false) from rfl)
  have f2 := (b1 2).trans (show _ = some (.int .i64 0) from rfl)
  obtain ⟨a1, a2', a3', a4⟩ := hS1.rules 1 (g := g) (t := 39) rfl
  have e0 := (a1 0).trans (show _ = some (.int .i64 7) from rfl)
  have e1 := (a1 1).trans (show _ = some (.int .i64 _) from rfl)
  have e2 := (a1 2).trans (show _ = some (.int .i64 _) from rfl)
  have e3 := (a1 3).trans (show _ = some (.int .i64 _) from rfl)
  have e4 := (a1 4).trans (show _ = some (.int .i64 _) from rfl)
  clear a1 a4 b1 b4
  have HS1 := hide hS1
  clear hb1 HS0 HCW a2 a3
  have hP1 : (K.item s).P w1 := hS1.get 0 rfl
  obtain ⟨i3, i4, i1, i2⟩ := K.cells hP1 h8 Q hQ
  have hvv := K.vok_rg HH.out HOK.out (Q : Int)
  obtain ⟨v, hv⟩ : ∃ v, rgA (K.regs (K.abs s)) (Q : Int) = v := ⟨_, rfl⟩
  rw [hv] at i3 i4 hvv HST
  have HVV := hide hvv
  clear hv hS1 hP1 hvv
  obtain ⟨bv, mv⟩ := v
  dsimp only at i3 i4
  go_wp2_with fail
  have q1 : g ≠ w1.heap.size := by omega
  have q2 : K.Bm ≠ w1.heap.size := by omega
  go_region_held3 (fun w' => w'.cell? ⟨g, 2, none⟩ = some (.int .i64 (Q : Int)) ∧ w'.cell? ⟨K.Bm, Q * 2, none⟩ = some (.bool bv) ∧ w'.cell? ⟨K.Bm, Q * 2 + 1, none⟩ = some (.int .i64 mv)) (simp (config := { maxDischargeDepth := 8 }) [*, World.cell?_alloc_some]) (fail)
  have hSv := (HS1.out.blkAt 107 #[.bool bv, .int .i64 mv] (g := w1.heap.size) rfl).drew
  obtain ⟨gv, hgv⟩ : ∃ g, w1.heap.size = g := ⟨_, rfl⟩
  obtain ⟨v1, v2, v3, _⟩ := hSv.rules 3 (g := w1.heap.size) (t := 107) rfl
  have v4 := (v1 0).trans (show _ = some (.bool bv) from rfl)
  have v5 := (v1 1).trans (show _ = some (.int .i64 mv) from rfl)
  obtain ⟨b1, b2, b3, b4⟩ := hSv.rules 2 (g := g + 1) (t := 41) rfl
  have f0 := (b1 0).trans (show _ = some (.int .i64 0) from rfl)
  have f1 := (b1 1).trans (show _ = some (.bool false) from rfl)
  have f2 := (b1 2).trans (show _ = some (.int .i64 0) from rfl)
  obtain ⟨a1, a2', a3', a4⟩ := hSv.rules 1 (g := g) (t := 39) rfl
  have e0 := (a1 0).trans (show _ = some (.int .i64 7) from rfl)
  have e1 := (a1 1).trans (show _ = some (.int .i64 _) from rfl)
  have e2 := (a1 2).trans (show _ = some (.int .i64 _) from rfl)
  have e3 := (a1 3).trans (show _ = some (.int .i64 _) from rfl)
  have e4 := (a1 4).trans (show _ = some (.int .i64 _) from rfl)
  clear a1 a4 b1 b4
  obtain ⟨c1, _, c3, c5⟩ := K.cells (hSv.get 0 rfl) h8 Q hQ
  have HSV := hide hSv
  clear hSv v1
  obtain ⟨W, hW⟩ : ∃ W, (w1.alloc (.cells #[.bool bv, .int .i64 mv] 107)).drew = W := ⟨_, rfl⟩
  rw [hW] at HSV v2 v3 v4 v5 b2 b3 f0 f1 f2 e0 e1 e2 e3 e4 c3 c5 ⊢
  clear hW q1 q2 i1 i2 i3 i4 c1
  try rw [hgv] at v4
  try rw [hgv] at v5
  try rw [hgv] at HSV
  try rw [hgv] at v2
  try rw [hgv] at v3
  rw [hgv]
  clear hgv
  by_cases hb : bv = true
  · subst hb
    obtain ⟨i, fs, hi, hfs⟩ := HVV.out rfl
    dsimp only at hi
    subst hi
    have h4 := HH.out.f4 _ _ _ HOK.out hfs
    have h1k := HH.out.lim _ _ _ HOK.out hfs
    have CP := HH.out.cL s W.drew i fs (HSV.out.drew.get 0 rfl) HOK.out hfs
    have hme := HH.out.mL s W.drew (HSV.out.drew.get 0 rfl)
    have hent := HH.out.eL
    obtain ⟨fL, hfL⟩ : ∃ x, K.fL = x := ⟨_, rfl⟩
    obtain ⟨rL, hrL⟩ : ∃ x, K.rL s = x := ⟨_, rfl⟩
    obtain ⟨q, hq⟩ : ∃ x, fs.length = x := ⟨_, rfl⟩
    simp only [hfL, hrL, hq] at CP hme hent
    replace CP := hide CP
    have HQ := hide (show K.len (K.abs s) (i : Int) = (q : Int) by unfold MemK.len; rw [show ((i : Int)).toNat = i from by omega, hfs, ← hq]; rfl)
    rw [hq] at h4
    clear hfL hrL hq hfs
    go_wp2_with fail
    go_region_law (first
      | (try go_simp
         (with_reducible refine CP.out.mono ?_)
         rintro e w4 ⟨rfl, rfl⟩))
    all_goals
      have hS4 : Sep F w (W.setCell ⟨gv, 1, none⟩ (.int .i64 (q : Int))).drew _ := HSV.out.drew.set_ 3 (g := gv) (t := 107) rfl 1 (.int .i64 (q : Int))
      obtain ⟨b1, b2, b3, b4⟩ := hS4.rules 2 (g := g + 1) (t := 41) rfl
      have f0 := (b1 0).trans (show _ = some (.int .i64 0) from rfl)
      have f1 := (b1 1).trans (show _ = some (.bool false) from rfl)
      have f2 := (b1 2).trans (show _ = some (.int .i64 0) from rfl)
      obtain ⟨v1, v2, v3, _⟩ := hS4.rules 3 (g := gv) (t := 107) rfl
      have v4 := (v1 0).trans (show _ = some (.bool true) from rfl)
      have v5 := (v1 1).trans (show _ = some (.int .i64 (q : Int)) from rfl)
      have HS4 := hide hS4
      clear b1 b4 v1 hS4 CP hme
      obtain ⟨W4, hW4⟩ : ∃ W4, (W.setCell ⟨gv, 1, none⟩ (.int .i64 (q : Int))).drew = W4 := ⟨_, rfl⟩
      rw [hW4] at HS4 f0 f1 f2 b2 b3 v2 v3 v4 v5 ⊢
      go_wp2_with fail
      have hr := HST.out
      try dsimp only at hr
      rw [if_pos (by trivial), HQ.out] at hr
      subst hr
      have hF := (((HS4.out).set_ 2 (g := g + 1) (t := 41) rfl 0 (.int .i64 0)).set_ 2 (g := g + 1) (t := 41) rfl 1 (.bool true)).set_ 2 (g := g + 1) (t := 41) rfl 2 (.int .i64 (q : Int))
      refine bodyPost_ret (v := .agg #[.int .i64 0, .bool true, .int .i64 (q : Int)]) (by simp [results, Try.results43, go_sem, f0, f1, f2]) rfl ⟨rfl, s, rfl, hF.sub (by simp)⟩
  · have hb2 : bv = false := by cases bv <;> simp_all
    subst hb2
    go_wp2_with fail
    have hr := HST.out
    try dsimp only at hr
    rw [if_neg (by simp)] at hr
    subst hr
    have hF := (((HSV.out).set_ 2 (g := g + 1) (t := 41) rfl 0 (.int .i64 0)).set_ 2 (g := g + 1) (t := 41) rfl 1 (.bool false)).set_ 2 (g := g + 1) (t := 41) rfl 2 (.int .i64 mv)
    refine bodyPost_ret (v := .agg #[.int .i64 0, .bool false, .int .i64 mv]) (by simp [results, Try.results43, go_sem, f0, f1, f2]) rfl ⟨rfl, s, rfl, hF.sub (by simp)⟩

theorem kdo_any (K : MemK) (h : K.Ok) {s : K.St} {w : World} (hP : (K.item s).P w) (ok1 : K.ok1 (K.abs s)) (d : DoV) : K.DoOk s w d := by
  by_cases hw : wrongM d = 0
  · obtain ⟨k1, k2⟩ := wrongM_rng hw
    obtain ⟨k, to, fr, at_, n⟩ := d
    dsimp only at k1 k2
    obtain rfl | rfl | rfl | rfl | rfl | rfl | rfl : k = 1 ∨ k = 2 ∨ k = 3 ∨ k = 4 ∨ k = 5 ∨ k = 6 ∨ k = 7 := by omega
    · exact kdo_1 K h hP ok1 to fr at_ n hw
    · exact kdo_2 K h hP ok1 to fr at_ n hw
    · exact kdo_3 K h hP ok1 to fr at_ n hw
    · exact kdo_4 K h hP ok1 to fr at_ n hw
    · exact kdo_5 K h hP ok1 to fr at_ n hw
    · exact kdo_6 K h hP ok1 to fr at_ n hw
    · exact kdo_7 K h hP ok1 to fr at_ n hw
  · exact kdo_bad K hP d hw
end Go.Proofs.Ytjphckfbbiehdaa
