/- A memory that counts, plain: how it begins, a script, what is told in the end. A memory that counts: what it has in memory; one reference more. A memory that counts: one reference fewer. A memory that counts: an object goes; one reference fewer. A memory that counts: a field becomes a value. A memory that is copied: what it has in memory. A memory that is copied: an object gets a copy. -/
import Derived.Test.YtjphckfbbiehdaaSReplicaPlays23
import Derived.Test.YtjphckfbbiehdaaSReplicaPlays16
import Derived.Test.YtjphckfbbiehdaaSReplicaPlays28
import Derived.Test.YtjphckfbbiehdaaSReplicaPlays19
import Derived.Test.YtjphckfbbiehdaaSReplicaPlays20
import Derived.StillTailTactics
import Derived.Test.YtjphckfbbiehdaaSReplicaPlays27
import Derived.Test.YtjphckfbbiehdaaSReplicaPlays14
import Derived.Deep.RegionHeld3
set_option linter.unusedSimpArgs false
set_option linter.unusedVariables false
namespace Go.Proofs.Ytjphckfbbiehdaa
open Go.RowKit
def CnA.drop (a : CnA) (i : Nat) : CnA := cdropN a.objs.length a i
/-- So many references more. -/
structure UpK (a b : CnA) (f : Nat → Nat) : Prop where
  r : b.regs = a.regs
  o : b.objs = a.objs
  g : b.gl = a.gl
  n : b.cnt.length = a.cnt.length
  c : ∀ j : Nat, b.cnt.getD j 0 = a.cnt.getD j 0 + (f j : Int)
theorem UpK.refl (a : CnA) : UpK a a fun _ => 0 := ⟨rfl, rfl, rfl, rfl, fun _ => by omega⟩
theorem UpK.trans {a b c : CnA} {f g : Nat → Nat} (h : UpK a b f) (k : UpK b c g) : UpK a c fun j => f j + g j :=
  ⟨k.r.trans h.r, k.o.trans h.o, k.g.trans h.g, k.n.trans h.n, fun j => by rw [k.c, h.c]; omega⟩
theorem UpK.congr {a b : CnA} {f g : Nat → Nat} (h : UpK a b f) (e : ∀ j, f j = g j) : UpK a b g := ⟨h.r, h.o, h.g, h.n, fun j => by rw [h.c, e]⟩
/-- What the program's memory may be, by the reference's. -/
theorem CnSim.inv {a : CnA} {t : CrA} (h : CnSim a t) (hz : ∀ i : Nat, t.gone[i]? = some true → ∀ j, occ j (obA t.σ.objs (i : Int)) = 0) (hgb : a.gl.length + a.num ≤ a.objs.length) : CnOk a := by
  have hO : ∀ j, occO j a.objs = ptsO j t.σ.objs := by
    intro j
    rw [h.s.ob]
    have gen : ∀ (objs : List (List Val)) (gone : List Bool), gone.length = objs.length → (∀ i : Nat, gone[i]? = some true → occ j (obA objs (i : Int)) = 0) → occO j (maskL objs gone) = ptsO j objs := by
      intro objs
      induction objs with
      | nil => intro gone hl _; rw [List.eq_nil_of_length_eq_zero hl]; rfl
      | cons o objs ih =>
        intro gone hl hz
        cases gone with
        | nil => cases hl
        | cons g gone =>
          have h1 := ih gone (by simpa using hl) fun i hi => by
            have := hz (i + 1) (by simpa using hi)
            unfold obA at this ⊢
            rw [Int.toNat_natCast] at this ⊢
            simpa using this
          unfold occO ptsO maskL at h1 ⊢
          rw [List.zipWith_cons_cons, List.map_cons, List.map_cons, List.sum_cons, List.sum_cons, h1]
          cases g
          · rfl
          · have := hz 0 (by simp)
            unfold obA at this
            simp at this
            simp [this, occ_nil]
    exact gen _ _ h.ok.lg fun i hi => hz i hi j
  refine ⟨by rw [h.r]; exact h.ok.m.r8, ⟨h.s.lc.trans h.n.symm, fun j hj => ?_, fun j hj hn => ?_, fun v hv hb => ?_, fun i fs hf v hv hb => ?_, fun i fs hf => ?_⟩, hgb⟩
  · rw [h.s.eq j (by rw [← h.n]; exact hj), hO, h.r]; rfl
  · have hj' : j < t.σ.objs.length := by rw [← h.n]; exact hj
    rw [h.s.eq j hj']
    cases hg : t.gone[j]? with
    | none => rw [List.getElem?_eq_none_iff, h.ok.lg] at hg; omega
    | some b =>
      cases b
      · rw [(h.s.fld h.ok.lg j _).2 ⟨hg, rfl⟩] at hn; cases hn
      · rw [h.ok.th j hg]; rfl
  · rw [h.r] at hv
    have h1 := h.ok.m.vr v hv hb
    obtain ⟨z, e⟩ := int_nat h1.1
    exact ⟨z, by rw [h.n]; omega, e⟩
  · have h1 := (h.ok.m.ob (i : Int)).1
    rw [h.ob hf] at h1
    have h2 := h1 v hv hb
    obtain ⟨z, e⟩ := int_nat h2.1
    exact ⟨z, by rw [h.n]; omega, e⟩
  · have h1 := (h.ok.m.ob (i : Int)).2
    rwa [h.ob hf] at h1
/-! ### Scripts. -/
end Go.Proofs.Ytjphckfbbiehdaa

namespace Go.Proofs.Ytjphckfbbiehdaa
open Go.RowKit
theorem wrapC64 (x : Int) (h0 : -1000000 ≤ x) (h1 : x ≤ 1000000) : IntKind.i64.wrap x = x := by
  simp [IntKind.wrap, IntKind.bits, IntKind.signed]; omega
structure CnT where
  regs : List Val
  oj : Oj
  Ac : Option Addr
  cc : Nat
  cnt : List Int
  Ag : Option Addr
  cg : Nat
  gl : List Int
def CnT.a (t : CnT) : CnA := ⟨t.regs, t.oj.abs, t.cnt, t.gl⟩
theorem CnT.n (t : CnT) : t.a.objs.length = t.oj.ps.length := oj_lenabs t.oj
theorem CnT.fld {t : CnT} {i : Nat} {fs : List Val} (h : t.a.fld i = some fs) : ∃ p, t.oj.ps[i]? = some (some p) ∧ p.o.fields = fs := oj_abs_at (CnA.fld_iff.1 h)
end Go.Proofs.Ytjphckfbbiehdaa

namespace Go.Proofs.Ytjphckfbbiehdaa
open Go.RowKit
def Oj.dropC (s : Oj) (i : Nat) : Oj := { s with ps := s.ps.set i none }
end Go.Proofs.Ytjphckfbbiehdaa

namespace Go.Proofs.Ytjphckfbbiehdaa
open Go.RowKit
def CnT.go (t : CnT) (i : Nat) (A : Option Addr) (c : Nat) : CnT := { t with oj := t.oj.dropC i, Ag := A, cg := c, gl := t.gl ++ [(i : Int)] }
end Go.Proofs.Ytjphckfbbiehdaa

namespace Go.Proofs.Ytjphckfbbiehdaa
open Go.RowKit
def CnT.put (t : CnT) (i k : Nat) (v : Val) (p : Po) : CnT := { t with oj := t.oj.put i k v p }
theorem CnT.put_a {t : CnT} {i : Nat} {p : Po} (hi : t.oj.ps[i]? = some (some p)) (k : Nat) (v : Val) : (t.put i k v p).a = t.a.seto i k v := by
  have hf : t.a.fld i = some p.o.fields := CnA.fld_iff.2 (by show t.oj.abs[i]? = _; unfold Oj.abs; rw [List.getElem?_map, hi]; rfl)
  unfold CnA.seto
  rw [hf]
  unfold CnT.put CnT.a
  dsimp only
  rw [oj_put_abs]
  rfl
end Go.Proofs.Ytjphckfbbiehdaa

namespace Go.Proofs.Ytjphckfbbiehdaa
open Go.RowKit Go.Maps
structure RpT where
  regs : List Val
  oj : Oj
  Ar : Option Addr
  cr : Nat
  row : List Int
  b : Nat
  cps : List Cp
  Am : Option Addr
  cm : Nat
  filled : Nat
  Al : Option Addr
  cl : Nat
  log : List (Nat × Nat)
  times : Nat
def cpP (l : List Cp) : List (Nat × List Val) := l.map fun c => (c.i, c.fs)
def RpT.a (t : RpT) : RpA := ⟨t.regs, t.oj.abs, t.row, cpP t.cps, t.filled, t.log, t.times⟩
def logV (l : List (Nat × Nat)) : List Value := l.flatMap fun p => [.int .i64 (p.1 : Int), .int .i64 (p.2 : Int)]
def madeV (l : List Cp) : List Value := ints (l.map fun c => (c.i : Int))
def cpRow (c : Cp) : Item := rowI 107 2 (some ⟨c.g, 0, none⟩) c.fs.length c.fs.length (vals c.fs)
def rpC (t : RpT) : Array Value := #[t.oj.v, .slice t.Ar t.row.length t.cr, .map (some t.b), .slice t.Am t.cps.length t.cm, .int .i64 (t.filled : Int), .slice t.Al t.log.length t.cl, .int .i64 (t.times : Int)]
def rpR (Be : Nat) (t : RpT) : List Item := allI (t.cps.map cpRow) :: blkI Be 190 (rpC t) :: rowI 3 1 t.Ar t.row.length t.cr (ints t.row) :: cpI t.b t.cps.length t.cps :: rowI 3 1 t.Am t.cps.length t.cm (madeV t.cps) :: sufI 254 2 t.Al t.log.length t.cl (logV t.log) :: ojL t.oj
theorem cpP_keys (l : List Cp) : keysC (cpP l) = l.map fun c => c.i := by unfold keysC cpP; rw [List.map_map]; rfl
theorem RpT.n (t : RpT) : t.a.objs.length = t.oj.ps.length := oj_lenabs t.oj
theorem RpT.fld {t : RpT} {i : Nat} {fs : List Val} (h : t.a.fld i = some fs) : ∃ p, t.oj.ps[i]? = some (some p) ∧ p.o.fields = fs := oj_abs_at (RpA.fld_iff.1 h)
theorem RpT.has {t : RpT} {z : Nat} : t.a.has z ↔ z ∈ t.cps.map fun c => c.i := by show z ∈ keysC (cpP t.cps) ↔ _; rw [cpP_keys]
section
variable {F : Nat → Prop} {W0 w : World} {Be : Nat} {t : RpT} {pre : List Item}
theorem rp_cells (hS : Sep F W0 w (pre ++ rpR Be t)) :
    w.cell? ⟨Be, 0, none⟩ = some (.slice t.oj.As t.oj.ps.length t.oj.c) ∧ w.cell? ⟨Be, 1, none⟩ = some (.slice t.Ar t.row.length t.cr) ∧ w.cell? ⟨Be, 2, none⟩ = some (.map (some t.b)) ∧ w.cell? ⟨Be, 3, none⟩ = some (.slice t.Am t.cps.length t.cm) ∧ w.cell? ⟨Be, 4, none⟩ = some (.int .i64 (t.filled : Int)) ∧ w.cell? ⟨Be, 5, none⟩ = some (.slice t.Al t.log.length t.cl) ∧ w.cell? ⟨Be, 6, none⟩ = some (.int .i64 (t.times : Int)) ∧ (∀ i, w.frozen? ⟨Be, i, none⟩ = false) ∧ Be < w.heap.size := by
  obtain ⟨c1, c2, c3, _⟩ := hS.rules (pre.length + 1) (g := Be) (t := 190) (cs := rpC t) (by rw [List.getElem?_append_right (by omega)]; simp [rpR])
  exact ⟨(c1 0).trans rfl, (c1 1).trans rfl, (c1 2).trans rfl, (c1 3).trans rfl, (c1 4).trans rfl, (c1 5).trans rfl, (c1 6).trans rfl, c2, c3⟩
theorem rp_map (hS : Sep F W0 w (pre ++ rpR Be t)) : (cpI t.b t.cps.length t.cps).P w := hS.get (pre.length + 3) (by rw [List.getElem?_append_right (by omega)]; simp [rpR])
end
theorem allI_push {F : Nat → Prop} {W w : World} {i : Item} {l L : List Item} (h : Sep F W w (i :: allI l :: L)) : Sep F W w (allI (l ++ [i]) :: L) := by
  have h1 := Sep.split (l := l) (h.perm (List.Perm.swap (allI l) i L))
  refine Sep.join (l := l ++ [i]) ?_
  rw [List.append_assoc]
  exact h1
theorem numW {x : Int} (h0 : -4611686018427387904 ≤ x) (h1 : x ≤ 4611686018427387903) : wfI x := by
  show (decide (IntKind.i64.min ≤ x) && decide (x ≤ IntKind.i64.max)) = true
  have e1 : IntKind.i64.min = -9223372036854775808 := by decide
  have e2 : IntKind.i64.max = 9223372036854775807 := by decide
  rw [e1, e2, Bool.and_eq_true, decide_eq_true_eq, decide_eq_true_eq]
  omega
set_option maxRecDepth 100000 in
theorem cp_look_any {w : World} {b N : Nat} {l : List Cp} (h : (cpI b N l).P w) (y : Int) (hy : wfI y) : ∃ v x, (Instr.lookup 187 (.map (some b)) (.int .i64 y) true).run Try.prog w = .ok (.tuple #[v, .bool x]) w := by
  have hown : w.ownsMap Try.prog 3 slE b N (mkC l) := h
  obtain ⟨v, ps, hrun, hv⟩ := hown.look_ok (int_keyed Try.underlying3) Try.underlying187 (zeroSl w) slE_nil (keyOf_int_mk Try.underlying3 hy)
  exact ⟨v, _, hrun⟩
def numOk (v : Val) : Prop := -4611686018427387904 ≤ v.2 ∧ v.2 ≤ 4611686018427387903
end Go.Proofs.Ytjphckfbbiehdaa

namespace Go.Proofs.Ytjphckfbbiehdaa
open Go.RowKit Go.Maps
/-- A copy comes to be: what was laid is the memory with one more. -/
theorem rp_more {F : Nat → Prop} {W0 w : World} {Be : Nat} {t : RpT} {x : Item} {c : Cp} {A : Option Addr} {cm : Nat}
    (h : Sep F W0 w (cpRow c :: x :: allI (t.cps.map cpRow) :: blkI Be 190 ((rpC t).setIfInBounds 3 (.slice A (t.cps.length + 1) cm)) :: rowI 3 1 t.Ar t.row.length t.cr (ints t.row) :: cpI t.b (t.cps.length + 1) (t.cps ++ [c]) :: rowI 3 1 A (t.cps.length + 1) cm (madeV t.cps ++ [.int .i64 (c.i : Int)]) :: sufI 254 2 t.Al t.log.length t.cl (logV t.log) :: ojL t.oj)) :
    Sep F W0 w (x :: rpR Be { t with cps := t.cps ++ [c], Am := A, cm := cm }) := by
  have h1 := h.perm (l := cpRow c :: allI (t.cps.map cpRow) :: x :: _) (List.Perm.cons _ (List.Perm.swap _ _ _))
  have h2 := allI_push h1
  have h3 := h2.perm (l := x :: allI (t.cps.map cpRow ++ [cpRow c]) :: _) (List.Perm.swap _ _ _)
  have e : rpR Be { t with cps := t.cps ++ [c], Am := A, cm := cm } = allI (t.cps.map cpRow ++ [cpRow c]) :: blkI Be 190 ((rpC t).setIfInBounds 3 (.slice A (t.cps.length + 1) cm)) :: rowI 3 1 t.Ar t.row.length t.cr (ints t.row) :: cpI t.b (t.cps.length + 1) (t.cps ++ [c]) :: rowI 3 1 A (t.cps.length + 1) cm (madeV t.cps ++ [.int .i64 (c.i : Int)]) :: sufI 254 2 t.Al t.log.length t.cl (logV t.log) :: ojL t.oj := by
    unfold rpR rpC madeV
    dsimp only
    rw [List.map_append, List.length_append, List.length_singleton, List.map_append]
    simp [ints]
  rw [e]
  exact h3
set_option maxRecDepth 100000 in
set_option maxHeartbeats 8000000 in
theorem rcopied_no {F : Nat → Prop} {W0 w : World} {Be : Nat} {t : RpT} {x : Item} (h : Sep F W0 w (x :: rpR Be t)) (v : Val) (hw : wfI v.2) (hnd : (t.cps.map fun c => c.i).Nodup) (hno : v.1 = false ∨ ∃ z : Nat, v.2 = (z : Int) ∧ z ∈ t.cps.map fun c => c.i) :
    Calls Try.prog 143 #[.pointer (some ⟨Be, 0, none⟩), .agg #[.bool v.1, .int .i64 v.2]] w fun e w' => e = .returned (.bool false) ∧ Sep F W0 w' (x :: rpR Be t) := by
  obtain ⟨g, hg⟩ : ∃ g, w.heap.size = g := ⟨_, rfl⟩
  have hS0 := h.blkAtF 107 #[.bool v.1, .int .i64 v.2] hg
  obtain ⟨W, hW⟩ : ∃ W, w.alloc (.cells #[.bool v.1, .int .i64 v.2] 107) = W := ⟨_, rfl⟩
  rw [hW] at hS0
  obtain ⟨x1, x2, x3, x4⟩ := hS0.rules 0 (g := g) (t := 107) rfl
  have x5 := (x1 0).trans (show _ = some (.bool v.1) from rfl)
  have x6 := (x1 1).trans (show _ = some (.int .i64 v.2) from rfl)
  obtain ⟨-, -, k2, -, -, -, -, -, k8⟩ := rp_cells (pre := [_, x]) hS0
  have hm := rp_map (pre := [_, x]) hS0
  have HS := hide (show Sep F W0 W (x :: rpR Be t) from hS0.sub (List.sublist_cons_self _ _))
  obtain ⟨lv, lx, hl⟩ := cp_look_any hm v.2 hw
  obtain ⟨bv, mv⟩ := v
  dsimp only at hno x5 x6 hW hl hw ⊢
  have hlx : bv = true → lx = true := fun hb => by
    rcases hno with h1 | ⟨z, e, hz⟩
    · rw [hb] at h1; cases h1
    · obtain ⟨c, hc, e2⟩ := List.mem_map.1 hz
      have h2 := (cp_look hm hnd z (by rw [← e]; exact hw)).1 c hc e2
      rw [← e, hl] at h2
      injection h2 with h2; injection h2 with h2; injection h2 with h2; injection h2 with _ h2; injection h2 with h2; injection h2
  clear h hS0 x1 hno hnd hm hw
  cases bv with
  | false =>
    clear hlx
    go_enter Try.func143, Try.ntmps143
    go_wp2_with fail
    go_ret
    exact ⟨rfl, HS.out⟩
  | true =>
    obtain rfl := hlx rfl
    clear hlx
    go_enter Try.func143, Try.ntmps143
    go_wp2_with fail
    go_ret
    exact ⟨rfl, HS.out⟩
set_option maxRecDepth 100000 in
set_option maxHeartbeats 16000000 in
theorem rcopied_yes {F : Nat → Prop} {W0 w : World} {Be : Nat} {t : RpT} {x : Item} (h : Sep F W0 w (x :: rpR Be t)) {z : Nat} {p : Po} (hp : t.oj.ps[z]? = some (some p)) (hz : z ∉ t.cps.map fun c => c.i) (hnd : (t.cps.map fun c => c.i).Nodup) (hn : t.oj.ps.length ≤ 600) (hc : t.cps.length ≤ 1000) (h4 : p.o.fields.length ≤ 4) :
    Calls Try.prog 143 #[.pointer (some ⟨Be, 0, none⟩), .agg #[.bool true, .int .i64 (z : Int)]] w fun e w' => e = .returned (.bool true) ∧ ∃ (g : Nat) (A : Option Addr) (cm : Nat), Sep F W0 w' (x :: rpR Be { t with cps := t.cps ++ [⟨z, g, zeroVs p.o.fields.length⟩], Am := A, cm := cm }) := by
  obtain ⟨g, hg⟩ : ∃ g, w.heap.size = g := ⟨_, rfl⟩
  have hS0 := h.blkAtF 107 #[.bool true, .int .i64 (z : Int)] hg
  obtain ⟨W, hW⟩ : ∃ W, w.alloc (.cells #[.bool true, .int .i64 (z : Int)] 107) = W := ⟨_, rfl⟩
  rw [hW] at hS0
  obtain ⟨x1, x2, x3, x4⟩ := hS0.rules 0 (g := g) (t := 107) rfl
  have x5 := (x1 0).trans (show _ = some (.bool true) from rfl)
  have x6 := (x1 1).trans (show _ = some (.int .i64 (z : Int)) from rfl)
  obtain ⟨k1, -, k2, -, -, -, -, -, k8⟩ := rp_cells (pre := [_, x]) hS0
  have hzl := (List.getElem?_eq_some_iff.1 hp).1
  have hw : wfI (z : Int) := numW (by omega) (by omega)
  have hl := (cp_look (rp_map (pre := [_, x]) hS0) hnd z hw).2.1 hz
  obtain ⟨ad, hA, had, f0, f1, hob⟩ := oj_at (pre := [_, x, _, _, _, _, _, _]) hS0 hp
  have hfl := oj_len (pre := [x, _, _, _, _, _, _]) h hp
  rw [hA] at k1
  obtain ⟨m, hm⟩ : ∃ m, p.o.n = m := ⟨_, rfl⟩
  obtain ⟨oA, hoA⟩ : ∃ m, p.o.A = m := ⟨_, rfl⟩
  obtain ⟨oC, hoC⟩ : ∃ m, p.o.c = m := ⟨_, rfl⟩
  obtain ⟨pB, hpB⟩ : ∃ m, p.B = m := ⟨_, rfl⟩
  rw [hm] at f1 hfl
  rw [hoA, hoC] at f1
  rw [hpB] at f0 f1
  rw [hfl] at h4 ⊢
  obtain ⟨nO, hnO⟩ : ∃ q, t.oj.ps.length = q := ⟨_, rfl⟩
  rw [hnO] at k1 hzl hn
  obtain ⟨cO, hcO⟩ : ∃ q, t.oj.c = q := ⟨_, rfl⟩
  rw [hcO] at k1
  obtain ⟨mb, hmb⟩ : ∃ q, t.b = q := ⟨_, rfl⟩
  rw [hmb] at k2 hl
  have hmk := hval_make m h4
  have hmx : Try.prog.follows .mixedOrders = true := by kernel_rfl
  obtain ⟨gN, hgN⟩ : ∃ q, W.heap.size = q := ⟨_, rfl⟩
  have hS1 := (hS0.blkAtF 107 (vals (zeroVs m)).toArray hgN).drew
  have hr := hrow_of_blk (n := m) (size := 2) (show Blk _ gN 107 (vals (zeroVs m)).toArray from hS1.get 0 rfl) (by simp [vals_length, zeroVs]) (by unfold maxLen; omega)
  have hS2 := hS1.step 0 rfl (Chg.refl _ _) (cpRow ⟨z, gN, zeroVs m⟩) (by
    show (rowI 107 2 (some ⟨gN, 0, none⟩) (zeroVs m).length (zeroVs m).length (vals (zeroVs m))).P _
    rw [show (zeroVs m).length = m from by simp [zeroVs]]
    exact hr) (fun g' hg' => .inl (by
      have : gN = g' := by simpa [cpRow, rowI, Value.ownBlock] using hg'
      exact this.symm))
  obtain ⟨w7, hrun, hS7, -⟩ := hS2.cpPut 6 rfl (show t.cps.length + 1 < maxLen by unfold maxLen; omega) ⟨z, gN, zeroVs m⟩ hw
  replace hrun : (Instr.mapUpdate 187 (.map (some mb)) (.int .i64 (z : Int)) (.slice (some ⟨gN, 0, none⟩) m m)).run Try.prog (W.alloc (.cells (vals (zeroVs m)).toArray 107)).drew = .ok () w7 := by
    rw [← hmb]
    have h1 := hrun
    unfold slV at h1
    dsimp only at h1
    rw [show (zeroVs m).length = m from by simp [zeroVs]] at h1
    exact h1
  have HS7 := hide (show Sep F W0 w7 (cpRow ⟨z, gN, zeroVs m⟩ :: blkI g 107 #[.bool true, .int .i64 (z : Int)] :: x :: allI (t.cps.map cpRow) :: blkI Be 190 (rpC t) :: rowI 3 1 t.Ar t.row.length t.cr (ints t.row) :: cpI t.b (t.cps.length + 1) (t.cps ++ [⟨z, gN, zeroVs m⟩]) :: rowI 3 1 t.Am t.cps.length t.cm (madeV t.cps) :: sufI 254 2 t.Al t.log.length t.cl (logV t.log) :: ojL t.oj) from hS7)
  obtain ⟨c1, c2, c3, -⟩ := HS7.out.rules 4 (g := Be) (t := 190) rfl
  have y2 := (c1 2).trans (show _ = some (.map (some t.b)) from rfl)
  have y0 := (c1 0).trans (show _ = some (.slice t.oj.As t.oj.ps.length t.oj.c) from rfl)
  have y3 := (c1 3).trans (show _ = some (.slice t.Am t.cps.length t.cm) from rfl)
  obtain ⟨ad', hA', -, q0, q1, -⟩ := oj_at (pre := [_, _, _, _, _, _, _, _, _]) HS7.out hp
  obtain rfl : ad = ad' := by rw [hA] at hA'; injection hA'
  rw [hA, hnO, hcO] at y0
  rw [hmb] at y2
  rw [hpB] at q0 q1
  rw [hm, hoA, hoC] at q1
  have t1 : decide ((z : Int) < 0) = false := by simp
  have t2 : decide ((nO : Int) ≤ (z : Int)) = false := by simp; omega
  have HCL := hide hc
  have n1 : gN ≠ Be := by omega
  clear h x1 c1 hA' hS0 hp hnd hA had hob hfl hm hoA hoC hpB hnO hcO hmb hS1 hr hS2 hw hz hc hS7
  go_enter Try.func143, Try.ntmps143
  go_wp2_with fail
  go_region_held3 (fun w' => w'.cell? ⟨Be, 2, none⟩ = some (.map (some mb)) ∧ w'.cell? ⟨Be, 0, none⟩ = some (.slice (some ad) nO cO) ∧ w'.cell? (ad.add z) = some (.pointer (some ⟨pB, 0, none⟩)) ∧ w'.cell? ⟨pB, 0, none⟩ = some (.slice oA m oC)) (first | go_keep | (simp (config := { maxDischargeDepth := 8 }) [*, World.cell?_alloc_some]; done))
    (fail)
  all_goals
    go_wp2_with (first
      | (at_builtin
         refine wpList_app1 (cs := #[.int .i64 (z : Int)]) rfl (.tmp 46) (.tmp 48) 35 rfl (F := F) (W := W0) sInt (items := _ :: _ :: _ :: _ :: _ :: _ :: _ :: _) HS7.out 7 (n := t.cps.length) rfl rfl rfl (by simp) rfl rfl (by have := HCL.out; omega) ?_
         intro A9 c9 w9 hS9 hC9
         obtain ⟨u1, u2, u3, -⟩ := hS9.rules 4 (g := Be) (t := 190) rfl))
    have hS10 := hS9.set_ 4 (g := Be) (t := 190) rfl 3 (.slice A9 (t.cps.length + 1) c9)
    have HF := hide (rp_more (c := ⟨z, gN, zeroVs m⟩) (hS10.sub (l := cpRow ⟨z, gN, zeroVs m⟩ :: x :: allI (t.cps.map cpRow) :: _) (List.Sublist.cons_cons _ (List.sublist_cons_self _ _))))
    clear hS9 hC9 hS10 u1
    go_wp2_with fail
    go_ret
    exact ⟨rfl, gN, A9, c9, HF.out⟩
theorem RpT.put_a (t : RpT) (z g : Nat) (fs : List Val) (A : Option Addr) (cm : Nat) : ({ t with cps := t.cps ++ [⟨z, g, fs⟩], Am := A, cm := cm } : RpT).a = { t.a with cps := t.a.cps ++ [(z, fs)] } := by
  unfold RpT.a cpP
  simp
theorem rcopied_any {E : Nat → Nat → Prop} {F : Nat → Prop} {W0 w : World} {Be : Nat} {t : RpT} {x : Item} (h : Sep F W0 w (x :: rpR Be t)) (ok : RpOkE E t.a) (hn : t.oj.ps.length ≤ 600) (v : Val) (hv : t.a.vok v) (hw : numOk v) :
    Calls Try.prog 143 #[.pointer (some ⟨Be, 0, none⟩), .agg #[.bool v.1, .int .i64 v.2]] w fun e w' => e = .returned (.bool (v.1 && !decide (t.a.has v.2.toNat))) ∧ ∃ t' : RpT, t'.a = t.a.cop v ∧ Sep F W0 w' (x :: rpR Be t') := by
  have hnd : (t.cps.map fun c => c.i).Nodup := by have h1 := ok.nd; rw [show keysC t.a.cps = _ from cpP_keys t.cps] at h1; exact h1
  by_cases hc : v.1 = false ∨ t.a.has v.2.toNat
  · have hno : v.1 = false ∨ ∃ z : Nat, v.2 = (z : Int) ∧ z ∈ t.cps.map fun c => c.i := by
      rcases hc with h1 | h1
      · exact .inl h1
      · cases hb : v.1 with
        | false => exact .inl rfl
        | true =>
          obtain ⟨i, fs, e, hf⟩ := hv hb
          rw [e, Int.toNat_natCast] at h1
          exact .inr ⟨i, e, RpT.has.1 h1⟩
    refine (rcopied_no h v (numW hw.1 hw.2) hnd hno).mono ?_
    rintro e w' ⟨rfl, hS⟩
    refine ⟨?_, t, (cop_no hc).symm, hS⟩
    rcases hc with h1 | h1
    · rw [h1]; rfl
    · rw [decide_eq_true h1]; simp
  · have hb : v.1 = true := by
      cases hb : v.1
      · exact absurd (.inl hb) hc
      · rfl
    obtain ⟨z, fs, e, hf⟩ := hv hb
    obtain ⟨p, hp, hpf⟩ := RpT.fld hf
    have hz : z ∉ t.cps.map fun c => c.i := fun h1 => hc (.inr (by rw [e, Int.toNat_natCast]; exact RpT.has.2 h1))
    have h24 : t.cps.length ≤ 24 := by have h1 := ok.made24; have h2 : t.a.cps.length = t.cps.length := List.length_map ..; omega
    have h4 := ok.f4 z fs hf
    rw [hb, e]
    refine (rcopied_yes h hp hz hnd hn (by omega) (by rw [hpf]; exact h4)).mono ?_
    rintro e' w' ⟨rfl, g, A, cm, hS⟩
    refine ⟨?_, _, ?_, hS⟩
    · rw [Int.toNat_natCast, decide_eq_false (fun h1 => hz (RpT.has.1 h1))]; rfl
    · rw [cop_yes hc, RpT.put_a, e, Int.toNat_natCast, RpA.flds_of hf, hpf]
end Go.Proofs.Ytjphckfbbiehdaa
