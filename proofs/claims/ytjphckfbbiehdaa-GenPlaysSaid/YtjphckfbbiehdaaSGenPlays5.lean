/- A machine over a memory without end: what it has in memory; its registers; a value's place in a row. A machine over a memory without end: a field becomes a value; a new object; a register becomes a value. Objects by number, some of them gone: what they have in memory; a field's value; a field becomes a value. A machine over a memory without end: a new object; a register becomes a value; what is wrong with a field. Objects by number, some of them gone: a new one; which are there. -/
import Derived.Test.YtjphckfbbiehdaaSGenPlays4
import Derived.Deep.RegionHeld3
import Derived.Deep.OwnRows
set_option linter.unusedSimpArgs false
set_option linter.unusedVariables false
namespace Go.Proofs.Ytjphckfbbiehdaa
open Go.RowKit
/-- An object behind a pointer. -/
structure Po where
  B : Nat
  o : Ob
def poI (p : Po) : Item := allI [blkI p.B 119 #[.slice p.o.A p.o.n p.o.c], obI p.o]
def mcCells (regs : List Val) (f : Value) : Array Value := (vals regs ++ [f]).toArray
/-- What a machine with a memory without end has in hand. -/
structure Idl where
  As : Option Addr
  c : Nat
  ps : List Po
  regs : List Val
abbrev idF (Be : Nat) : Value := .iface 183 (.pointer (some ⟨Be, 0, none⟩))
def idL (Bm Be : Nat) (s : Idl) : List Item :=
  blkI Bm 113 (mcCells s.regs (idF Be)) :: blkI Be 185 #[.slice s.As s.ps.length s.c] :: rowI 170 1 s.As s.ps.length s.c (s.ps.map fun p => .pointer (some ⟨p.B, 0, none⟩)) :: s.ps.map poI
def idI (Bm Be : Nat) (s : Idl) : Item := allI (idL Bm Be s)
theorem vals_app (a b : List Val) : vals (a ++ b) = vals a ++ vals b := by simp [vals]
theorem vals_set2 (l : List Val) (j : Nat) (b : Bool) (m : Int) : ((vals l).set (j * 2) (.bool b)).set (j * 2 + 1) (.int .i64 m) = vals (l.set j (b, m)) := by
  unfold vals
  induction l generalizing j with
  | nil => rfl
  | cons a l ih =>
    cases j with
    | zero => rfl
    | succ j =>
      rw [List.flatMap_cons, show (j + 1) * 2 = j * 2 + 1 + 1 from by omega, show j * 2 + 1 + 1 + 1 = (j * 2 + 1) + 1 + 1 from by omega]
      simp only [List.cons_append, List.nil_append, List.set_cons_succ, List.flatMap_cons]
      rw [ih]
theorem mc_reg {regs : List Val} {f : Value} {r : Nat} (h : r < regs.length) : (mcCells regs f)[r * 2]? = some (.bool regs[r].1) ∧ (mcCells regs f)[r * 2 + 1]? = some (.int .i64 regs[r].2) := by
  obtain ⟨v0, v1⟩ := vals_at regs r h
  have hl := vals_length regs
  unfold mcCells
  simp only [List.getElem?_toArray]
  refine ⟨(List.getElem?_append_left (by omega)).trans v0, (List.getElem?_append_left (by omega)).trans v1⟩
theorem mc_if {regs : List Val} {f : Value} (h : regs.length = 8) : (mcCells regs f)[16]? = some f := by
  have hl := vals_length regs
  unfold mcCells
  simp only [List.getElem?_toArray]
  rw [List.getElem?_append_right (by omega)]
  simp [hl, h]
theorem mc_set {regs : List Val} {f : Value} {r : Nat} (h : r < regs.length) (v : Val) : ((mcCells regs f).setIfInBounds (r * 2) (.bool v.1)).setIfInBounds (r * 2 + 1) (.int .i64 v.2) = mcCells (regs.set r v) f := by
  have hl := vals_length regs
  unfold mcCells
  rw [List.setIfInBounds_toArray, List.setIfInBounds_toArray, List.set_append_left _ _ (by omega), List.set_append_left _ _ (by rw [List.length_set]; omega), vals_set2]
theorem recv_run (Be : Nat) (w : World) : (receiverAt 101 (.var ⟨Be, 0, none⟩) false none).run Try.prog w = ((loadVar 101 ⟨Be, 0, none⟩).run Try.prog w) := by kernel_rfl
theorem recv_load (Be : Nat) (w : World) : (loadVar 101 ⟨Be, 0, none⟩).run Try.prog w = ((load ⟨Be, 0, none⟩).run Try.prog w) := by kernel_rfl
theorem recv_cell (Be : Nat) (w : World) (v : Value) (h : w.cell? ⟨Be, 0, none⟩ = some v) : (receiverAt 101 (.var ⟨Be, 0, none⟩) false none).run Try.prog w = .ok v w := by
  rw [recv_run, recv_load]
  simp [go_sem, h]
theorem hraddr0 (g j : Nat) : (⟨g, 0, none⟩ : Addr).add j = ⟨g, j, none⟩ := by
  unfold Addr.add; split <;> simp_all
theorem hown_addr {w : World} {b e size n c : Nat} {A : Option Addr} {xs : List Value} (h : w.ownsRow b e size (.slice A n c) n xs) (hn : 0 < n) : ∃ g, A = some ⟨g, 0, none⟩ := by
  rcases h.2 with ⟨hv, rfl⟩ | ⟨g, cap, cur, hv, _⟩
  · injection hv with _ h2 _; omega
  · exact ⟨g, by injection hv⟩
theorem hrow_val {w : World} {n c g : Nat} {l : List Val} (h : (rowI 107 2 (some ⟨g, 0, none⟩) n c (vals l)).P w) (j : Nat) (hj : j < n) (hjl : j < l.length) :
    w.cell? ⟨g, j * 2, none⟩ = some (.bool l[j].1) ∧ w.cell? ⟨g, j * 2 + 1, none⟩ = some (.int .i64 l[j].2) ∧ w.frozen? ⟨g, j * 2, none⟩ = false ∧ w.frozen? ⟨g, j * 2 + 1, none⟩ = false := by
  have ho : w.ownsRow 0 107 2 (.slice (some ⟨g, 0, none⟩) n c) n (vals l) := h
  obtain ⟨fd, hA, _, _, hc3, hd3⟩ := (Rd.of_own (D := fun _ => True) ho (fun _ _ => trivial)).atN hj
  obtain rfl : (⟨g, 0, none⟩ : Addr) = fd := by injection hA
  obtain ⟨v0, v1⟩ := vals_at l j hjl
  have e2 := hc3 _ v0
  have e3 := hd3 0 _ v1
  rw [hraddr0] at e2 e3
  exact ⟨e2, e3, ho.frozenAt _, ho.frozenAt _⟩
end Go.Proofs.Ytjphckfbbiehdaa

namespace Go.Proofs.Ytjphckfbbiehdaa
open Go.RowKit
def Po.put (p : Po) (k : Nat) (v : Val) : Po := ⟨p.B, ⟨p.o.A, p.o.n, p.o.c, p.o.fields.set k v⟩⟩
def Idl.put (s : Idl) (i k : Nat) (v : Val) (h : i < s.ps.length) : Idl := { s with ps := s.ps.set i (s.ps[i].put k v) }
end Go.Proofs.Ytjphckfbbiehdaa

namespace Go.Proofs.Ytjphckfbbiehdaa
open Go.RowKit
def opI : Option Po → Item
  | some p => poI p
  | none => allI []
def ptrV (p : Option Po) : Value := .pointer (p.map fun p => ⟨p.B, 0, none⟩)
/-- Objects: where the row of pointers lies, and the objects. -/
structure Oj where
  As : Option Addr
  c : Nat
  ps : List (Option Po)
def ojL (s : Oj) : List Item := rowI 170 1 s.As s.ps.length s.c (s.ps.map ptrV) :: s.ps.map opI
def Oj.v (s : Oj) : Value := .slice s.As s.ps.length s.c
def Oj.abs (s : Oj) : List (Option (List Val)) := s.ps.map fun p => p.map fun p => p.o.fields
theorem mem_opI {s : Oj} {i : Nat} {p : Po} (hi : s.ps[i]? = some (some p)) : poI p ∈ ojL s := by
  unfold ojL
  simp only [List.mem_cons, List.mem_map]
  exact .inr ⟨some p, List.mem_of_getElem? hi, rfl⟩
theorem oj_len {s : Oj} {F : Nat → Prop} {W w : World} {pre : List Item} (h : Sep F W w (pre ++ ojL s)) {i : Nat} {p : Po} (hi : s.ps[i]? = some (some p)) : p.o.fields.length = p.o.n := by
  have h1 := (h.all (poI p) (List.mem_append_right _ (mem_opI hi))).1 (obI p.o) (by simp)
  have h2 : (vals p.o.fields).length = p.o.n * 2 := (show w.ownsRow 0 107 2 (.slice p.o.A p.o.n p.o.c) p.o.n (vals p.o.fields) from h1).1
  rw [vals_length] at h2; omega
/-- An object behind its pointer. -/
theorem oj_at {s : Oj} {F : Nat → Prop} {W w : World} {pre : List Item} (h : Sep F W w (pre ++ ojL s)) {i : Nat} {p : Po} (hi : s.ps[i]? = some (some p)) :
    ∃ (ad : Addr), s.As = some ad ∧ ad.block < w.heap.size ∧ w.cell? (ad.add i) = some (.pointer (some ⟨p.B, 0, none⟩)) ∧ w.cell? ⟨p.B, 0, none⟩ = some (.slice p.o.A p.o.n p.o.c) ∧ (obI p.o).P w := by
  have hrow : (rowI 170 1 s.As s.ps.length s.c (s.ps.map ptrV)).P w := h.all _ (by unfold ojL; simp)
  have hp := h.all (poI p) (List.mem_append_right _ (mem_opI hi))
  obtain ⟨hil, hie⟩ := List.getElem?_eq_some_iff.1 hi
  obtain ⟨ad, hA, _, had, hc⟩ := (Rd.of_own (D := fun _ => True) (show w.ownsRow 0 170 1 (.slice s.As s.ps.length s.c) s.ps.length _ from hrow) (fun _ _ => trivial)).at_ hil
  have hb : (blkI p.B 119 #[.slice p.o.A p.o.n p.o.c]).P w := hp.1 _ (by simp)
  refine ⟨ad, hA, had, hc _ (by rw [List.getElem?_map, hi]; rfl), ((show Blk w _ _ _ from hb).rules.1 0).trans rfl, hp.1 _ (by simp)⟩
set_option maxRecDepth 100000 in
set_option maxHeartbeats 4000000 in
theorem olen_any {s : Oj} {F : Nat → Prop} {W w : World} {pre : List Item} (h : Sep F W w (pre ++ ojL s)) (hn : s.ps.length ≤ 1000) {i : Nat} {p : Po} (hi : s.ps[i]? = some (some p)) :
    Calls Try.prog 264 #[s.v, .int .i64 i] w fun e w' => e = .returned (.int .i64 p.o.n) ∧ w' = w := by
  obtain ⟨ad, hA, had, e0, e1, _⟩ := oj_at h hi
  have hil := (List.getElem?_eq_some_iff.1 hi).1
  unfold Oj.v
  obtain ⟨n, hn2⟩ : ∃ n, s.ps.length = n := ⟨_, rfl⟩
  rw [hn2] at hil hn ⊢
  rw [hA]
  clear hn2 h hi
  go_enter Try.func264, Try.ntmps264
  go_wp2_with fail
  go_ret
  exact ⟨rfl, rfl⟩
set_option maxRecDepth 100000 in
set_option maxHeartbeats 4000000 in
theorem oget_any {s : Oj} {F : Nat → Prop} {W w : World} {pre : List Item} (h : Sep F W w (pre ++ ojL s)) (hn : s.ps.length ≤ 1000) {i k : Nat} {p : Po} (hi : s.ps[i]? = some (some p)) (hk : k < p.o.fields.length) (h4 : p.o.fields.length ≤ 4) :
    Calls Try.prog 262 #[s.v, .int .i64 i, .int .i64 k] w fun e w' => e = .returned (.agg #[.bool p.o.fields[k].1, .int .i64 p.o.fields[k].2]) ∧ Below w.heap.size w w' := by
  have hfl := oj_len h hi
  have hkn : k < p.o.n := by omega
  rw [hfl] at h4
  have hS1 := h.alloc (.cells #[.bool false, .int .i64 0] 107)
  have hB0 : Below w.heap.size w (w.alloc (.cells #[.bool false, .int .i64 0] 107)) := (Below.refl _ w).alloc (Nat.le_refl _) _
  obtain ⟨ad, hA, had, e0, e1, hob⟩ := oj_at hS1 hi
  obtain ⟨g, hA2⟩ := hown_addr (show (w.alloc (.cells #[.bool false, .int .i64 0] 107)).ownsRow 0 107 2 (.slice p.o.A p.o.n p.o.c) p.o.n (vals p.o.fields) from hob) (by omega)
  have hob2 : (rowI 107 2 (some ⟨g, 0, none⟩) p.o.n p.o.c (vals p.o.fields)).P (w.alloc (.cells #[.bool false, .int .i64 0] 107)) := by rw [← hA2]; exact hob
  obtain ⟨e2, e3, _, _⟩ := hrow_val hob2 k hkn hk
  obtain ⟨v, hv⟩ : ∃ v, p.o.fields[k] = v := ⟨_, rfl⟩
  rw [hv] at e2 e3 ⊢
  rw [hA2] at e1
  have hil := (List.getElem?_eq_some_iff.1 hi).1
  obtain ⟨B, hB⟩ : ∃ x, p.B = x := ⟨_, rfl⟩
  obtain ⟨m, hm⟩ : ∃ x, p.o.n = x := ⟨_, rfl⟩
  obtain ⟨c, hc⟩ : ∃ x, p.o.c = x := ⟨_, rfl⟩
  unfold Oj.v
  obtain ⟨n, hn2⟩ : ∃ n, s.ps.length = n := ⟨_, rfl⟩
  rw [hB] at e0 e1
  rw [hm] at e1 hkn h4
  rw [hc] at e1
  rw [hn2] at hil hn ⊢
  rw [hA]
  have HB0 := hide hB0
  clear hv hB hm hc hn2 hob hob2 hk h hS1 hB0 hfl hi
  obtain ⟨bv, mv⟩ := v
  dsimp only at e2 e3 ⊢
  go_enter Try.func262, Try.ntmps262
  go_wp2_with fail
  refine bodyPost_ret (v := .agg #[.bool bv, .int .i64 mv]) (by simp [results, Try.results262, go_sem]) rfl ⟨rfl, (Below.refl _ w).alloc (Nat.le_refl _) _⟩
def Oj.put (s : Oj) (i k : Nat) (v : Val) (p : Po) : Oj := { s with ps := s.ps.set i (some (p.put k v)) }
theorem optrs_put (l : List (Option Po)) (i k : Nat) (v : Val) (p : Po) (h : l[i]? = some (some p)) : (l.set i (some (p.put k v))).map ptrV = l.map ptrV := by
  rw [List.map_set]
  obtain ⟨hl, he⟩ := List.getElem?_eq_some_iff.1 h
  refine List.ext_getElem (by simp) fun j h1 h2 => ?_
  rw [List.getElem_set]
  split
  · rename_i e; subst e; simp [he, ptrV, Po.put]
  · rfl
set_option maxRecDepth 100000 in
set_option maxHeartbeats 8000000 in
theorem oput_any {s : Oj} {w : World} (hP : (allI (ojL s)).P w) (hn : s.ps.length ≤ 1000) {i k : Nat} {p : Po} (v : Val) (hi : s.ps[i]? = some (some p)) (hk : k < p.o.fields.length) (h4 : p.o.fields.length ≤ 4) :
    Calls Try.prog 266 #[s.v, .int .i64 i, .int .i64 k, .agg #[.bool v.1, .int .i64 v.2]] w fun e w' => (∃ u, e = .returned u) ∧ Sep (allI (ojL s)).fp w w' [allI (ojL (s.put i k v p))] := by
  obtain ⟨F, hF⟩ : ∃ F, (allI (ojL s)).fp = F := ⟨_, rfl⟩
  have hfl := oj_len (pre := []) (Sep.start hP).flat hi
  have hkn : k < p.o.n := by omega
  rw [hfl] at h4
  have hil := (List.getElem?_eq_some_iff.1 hi).1
  have hS0 : Sep (allI (ojL s)).fp w (w.alloc (.cells #[.bool v.1, .int .i64 v.2] 107)) ([blkI w.heap.size 107 #[.bool v.1, .int .i64 v.2]] ++ ojL s) := ((Sep.start hP).flat.blkAt 107 #[.bool v.1, .int .i64 v.2] (g := w.heap.size) rfl).perm List.perm_append_comm
  rw [hF] at hS0 ⊢
  obtain ⟨ad, hA, had, e0, e1, hob⟩ := oj_at hS0 hi
  have hS00 : Sep F w (w.alloc (.cells #[.bool v.1, .int .i64 v.2] 107)) ([blkI w.heap.size 107 #[.bool v.1, .int .i64 v.2], rowI 170 1 s.As s.ps.length s.c (s.ps.map ptrV)] ++ s.ps.map opI) := hS0
  have hS1 := hS00.focus (j := i) (t := some p) hi
  have hS2 := Sep.split (l := [blkI p.B 119 #[.slice p.o.A p.o.n p.o.c], obI p.o]) hS1
  obtain ⟨ga, hga⟩ := hown_addr (show (w.alloc (.cells #[.bool v.1, .int .i64 v.2] 107)).ownsRow 0 170 1 (.slice s.As s.ps.length s.c) s.ps.length _ from hS2.get 3 rfl) (by omega)
  obtain ⟨g2, hg2⟩ := hown_addr (show (w.alloc (.cells #[.bool v.1, .int .i64 v.2] 107)).ownsRow 0 107 2 (.slice p.o.A p.o.n p.o.c) p.o.n (vals p.o.fields) from hob) (by omega)
  have hob2 : (rowI 107 2 (some ⟨g2, 0, none⟩) p.o.n p.o.c (vals p.o.fields)).P (w.alloc (.cells #[.bool v.1, .int .i64 v.2] 107)) := by rw [← hg2]; exact hob
  obtain ⟨f1, f2, f3, f4⟩ := hrow_val hob2 k hkn hk
  have hfp2 : (obI p.o).fp g2 := by show (Value.slice p.o.A p.o.n p.o.c).ownBlock = some g2; rw [hg2]; rfl
  have hne1 : g2 ≠ p.B := fun e => hS2.other (a := 1) (b := 0) rfl rfl (by omega) g2 hfp2 e
  have hne2 : g2 ≠ w.heap.size := fun e => hS2.other (a := 1) (b := 2) rfl rfl (by omega) g2 hfp2 e
  have hne3 : g2 ≠ ga := fun e => hS2.other (a := 1) (b := 3) rfl rfl (by omega) g2 hfp2 (by show (Value.slice s.As s.ps.length s.c).ownBlock = some g2; rw [hga, e]; rfl)
  have hsz : g2 < (w.alloc (.cells #[.bool v.1, .int .i64 v.2] 107)).heap.size := hS2.hi 1 rfl g2 hfp2
  obtain ⟨x1, x2, _, _⟩ := hS2.rules 2 (g := w.heap.size) (t := 107) rfl
  have x5 := (x1 0).trans (show _ = some (.bool v.1) from rfl)
  have x6 := (x1 1).trans (show _ = some (.int .i64 v.2) from rfl)
  have HS2 := hide hS2
  have HFIN := hide (fun (X : World) (h : Sep F w X (opI (some (p.put k v)) :: ([blkI w.heap.size 107 #[.bool v.1, .int .i64 v.2], rowI 170 1 s.As s.ps.length s.c (s.ps.map ptrV)] ++ (s.ps.eraseIdx i).map opI))) =>
    (show Sep F w X [allI (ojL (s.put i k v p))] from by
      have h1 := (h.unfocus (l := s.ps) (j := i) hil).sub (l := rowI 170 1 s.As s.ps.length s.c (s.ps.map ptrV) :: (s.ps.set i (some (p.put k v))).map opI) (.cons _ (List.Sublist.refl _))
      refine Sep.fold (l := ojL (s.put i k v p)) ?_
      unfold ojL Oj.put
      dsimp only
      rw [optrs_put s.ps i k v p hi, List.length_set]
      exact h1))
  have HST := hide (fun (X : World) (h : Sep F w X (blkI p.B 119 #[.slice p.o.A p.o.n p.o.c] :: obI p.o :: ([blkI w.heap.size 107 #[.bool v.1, .int .i64 v.2], rowI 170 1 s.As s.ps.length s.c (s.ps.map ptrV)] ++ (s.ps.eraseIdx i).map opI))) =>
    (show Sep F w ((X.setCell ⟨g2, k * 2, none⟩ (.bool v.1)).setCell ⟨g2, k * 2 + 1, none⟩ (.int .i64 v.2)) (opI (some (p.put k v)) :: ([blkI w.heap.size 107 #[.bool v.1, .int .i64 v.2], rowI 170 1 s.As s.ps.length s.c (s.ps.map ptrV)] ++ (s.ps.eraseIdx i).map opI)) from by
      have he : obI p.o = rowI 107 2 (some ⟨g2, 0, none⟩) p.o.n p.o.c (vals p.o.fields) := by unfold obI; rw [hg2]
      rw [he] at h
      have h2 := (h.store 1 (g := g2) rfl (k * 2) (.bool v.1)).store 1 (g := g2) rfl (k * 2 + 1) (.int .i64 v.2)
      simp only [List.set_cons_succ, List.set_cons_zero, vals_set2] at h2
      refine Sep.join (l := [blkI p.B 119 #[.slice p.o.A p.o.n p.o.c], obI (p.put k v).o]) ?_
      have he2 : obI (p.put k v).o = rowI 107 2 (some ⟨g2, 0, none⟩) p.o.n p.o.c (vals (p.o.fields.set k (v.1, v.2))) := by unfold obI Po.put; dsimp only; rw [hg2]
      rw [he2]
      exact h2))
  obtain ⟨B, hB⟩ : ∃ x, p.B = x := ⟨_, rfl⟩
  obtain ⟨m, hm⟩ : ∃ x, p.o.n = x := ⟨_, rfl⟩
  obtain ⟨c, hc⟩ : ∃ x, p.o.c = x := ⟨_, rfl⟩
  unfold Oj.v
  obtain ⟨n, hn2⟩ : ∃ n, s.ps.length = n := ⟨_, rfl⟩
  obtain ⟨bv, mv⟩ := v
  obtain rfl : ad = ⟨ga, 0, none⟩ := by rw [hga] at hA; injection hA with hA; exact hA.symm
  rw [hraddr0] at e0
  rw [hB] at e0 e1 hne1
  rw [hg2, hm, hc] at e1
  rw [hm] at hkn h4
  rw [hA]
  have hin : i < n := by rw [← hn2]; exact hil
  rw [hn2] at hn ⊢
  dsimp only at x5 x6 HS2 HFIN HST f1 f2 ⊢
  obtain ⟨W, hW⟩ : ∃ W, w.alloc (.cells #[.bool bv, .int .i64 mv] 107) = W := ⟨_, rfl⟩
  rw [hW] at e0 e1 f1 f2 f3 f4 hsz x2 x5 x6 HS2
  obtain ⟨gb, hgb⟩ : ∃ g, w.heap.size = g := ⟨_, rfl⟩
  have HGB := hide hgb
  have HW := hide hW
  rw [hgb] at hne2 x2 x5 x6
  clear hS0 hS00 hS1 hS2 hob hob2 hP hB hm hc hn2 x1 hF hfp2 hgb hW hA hg2 hga hi hil hfl
  go_enter Try.func266, Try.ntmps266
  go_wp2_with fail
  rw [HW.out]
  rw [HGB.out]
  have hne4 : ga ≠ g2 := fun e => hne3 e.symm
  have hne5 : B ≠ g2 := fun e => hne1 e.symm
  have hne6 : gb ≠ g2 := fun e => hne2 e.symm
  go_region_held3 (fun w' => w'.cell? ⟨ga, i, none⟩ = some (.pointer (some ⟨B, 0, none⟩)) ∧ w'.cell? ⟨B, 0, none⟩ = some (.slice (some ⟨g2, 0, none⟩) m c) ∧ w'.cell? ⟨gb, 0, none⟩ = some (.bool bv) ∧ w'.cell? ⟨gb, 1, none⟩ = some (.int .i64 mv)) (go_keep) (fail)
  all_goals
    go_end0
    exact ⟨⟨_, rfl⟩, HFIN.out _ (HST.out _ HS2.out.drew)⟩
end Go.Proofs.Ytjphckfbbiehdaa

namespace Go.Proofs.Ytjphckfbbiehdaa
open Go.RowKit
theorem hrow_of_blk {w : World} {g t size n : Nat} {cs : Array Value} (h : Blk w g t cs) (hs : cs.size = n * size) (hm : n ≤ maxLen) : (rowI t size (some ⟨g, 0, none⟩) n n cs.toList).P w :=
  ⟨by rw [Array.length_toList, hs], .inr ⟨g, n, cs, rfl, Nat.zero_le _, h, Nat.le_refl _, hm, hs, by rw [List.take_of_length_le (by rw [Array.length_toList]; omega)]⟩⟩
def zeroVs (n : Nat) : List Val := List.replicate n (false, 0)
theorem hval_info : (Try.prog.info? 107).map (fun i => (i.zero, i.size, i.bytes)) = some (some (.agg #[.bool false, .int .i64 0]), 2, 16) := by kernel_rfl
theorem hmade (n : Nat) (hn : n ≤ 4) : madeCells #[.bool false, .int .i64 0] (n * 2) = (vals (zeroVs n)).toArray := by
  rcases (show n = 0 ∨ n = 1 ∨ n = 2 ∨ n = 3 ∨ n = 4 from by omega) with rfl | rfl | rfl | rfl | rfl <;> (apply Array.toList_inj.1; simp [madeCells, vals, zeroVs, List.range_succ, List.replicate])
theorem hval_make (n : Nat) (hn : n ≤ 4) : ∀ w : World, (Instr.makeSlice 25 (.int .i64 (n : Int)) (.int .i64 (n : Int))).run Try.prog w = .ok (.slice (some ⟨w.heap.size, 0, none⟩) n n) (w.alloc (.cells (vals (zeroVs n)).toArray 107)) := by
  intro w
  obtain ⟨i, hi, hz, hs, hb⟩ := info_parts hval_info
  have h := run_make w 25 107 i _ Try.underlying25 hi hz .i64 .i64 n n (by omega) (Int.le_refl _) (by rw [hb]; omega) (by omega)
  simp only [Int.toNat_natCast, hs] at h
  rw [show (Value.agg #[.bool false, .int .i64 0]).cells = #[.bool false, .int .i64 0] from rfl, hmade n hn] at h
  exact h
theorem sPtr : SliceT Try.prog 101 170 1 8 := SliceT.mk_ Try.underlying101 (z := .pointer none) (by kernel_rfl) rfl (by omega)
def Idl.new (s : Idl) (As : Option Addr) (c B g n : Nat) : Idl := { s with As := As, c := c, ps := s.ps ++ [⟨B, ⟨some ⟨g, 0, none⟩, n, n, zeroVs n⟩⟩] }
end Go.Proofs.Ytjphckfbbiehdaa

namespace Go.Proofs.Ytjphckfbbiehdaa
open Go.RowKit
/-- The numbers of those that are there. -/
def thereK {α : Type} (l : List (Option α)) (k : Nat) : List Int := ((List.range k).filter fun i => (l.getD i none).isSome).map fun i : Nat => (i : Int)
def thereL {α : Type} (l : List (Option α)) : List Int := thereK l l.length
theorem thereK_succ {α : Type} (l : List (Option α)) (k : Nat) : thereK l (k + 1) = thereK l k ++ (if (l.getD k none).isSome = true then [(k : Int)] else []) := by
  unfold thereK
  rw [List.range_succ, List.filter_append, List.map_append]
  congr 1
  rw [List.filter_cons, List.filter_nil]
  cases h : (l.getD k none).isSome
  · rfl
  · rfl
theorem thereK_len {α : Type} (l : List (Option α)) (k : Nat) : (thereK l k).length ≤ k := by
  unfold thereK
  rw [List.length_map]
  have := List.length_filter_le (fun i => (l.getD i none).isSome) (List.range k)
  simpa using this
theorem mem_thereL {α : Type} (l : List (Option α)) (x : Int) : x ∈ thereL l ↔ ∃ (i : Nat) (a : α), x = (i : Int) ∧ l[i]? = some (some a) := by
  unfold thereL thereK
  simp only [List.mem_map, List.mem_filter, List.mem_range, List.getD_eq_getElem?_getD]
  constructor
  · rintro ⟨i, ⟨h1, h2⟩, rfl⟩
    rw [List.getElem?_eq_getElem h1] at h2
    simp only [Option.getD_some, Option.isSome_iff_exists] at h2
    obtain ⟨a, ha⟩ := h2
    exact ⟨i, a, rfl, by rw [List.getElem?_eq_getElem h1, ha]⟩
  · rintro ⟨i, a, rfl, h⟩
    obtain ⟨h1, h2⟩ := List.getElem?_eq_some_iff.1 h
    exact ⟨i, ⟨h1, by rw [h]; rfl⟩, rfl⟩
set_option maxRecDepth 100000 in
set_option maxHeartbeats 4000000 in
theorem oThere_any (w : World) (As : Option Addr) (n c : Nat) (ps : List (Option Po)) (hn : n ≤ 1000) (hR : Rd w (fun _ => True) 1 As n (ps.map ptrV)) :
    Calls Try.prog 75 #[.slice As n c] w fun e w' => ∃ A c', e = .returned (.slice A (thereL ps).length c') ∧ Sep No w w' [rowI 3 1 A (thereL ps).length c' (ints (thereL ps))] := by
  have hl : ps.length = n := by have := hR.1; simpa using this
  have hth : thereL ps = thereK ps n := by unfold thereL; rw [hl]
  rw [hth]
  have HL := hide hl
  have HS0 := hide ((Sep.nil No w).nilRow 3 1)
  clear hl hth
  go_enter Try.func75, Try.ntmps75
  go_wp2_with fail
  go_loopw [3, 8] (fun s i wr => ∃ (k m : Nat) (A' : Option Addr) (c' : Nat), k ≤ n ∧ i = .int .i64 k ∧ s = .slice A' m c' ∧ Hid (m = (thereK ps k).length) ∧ Sep No w wr [rowI 3 1 A' m c' (ints (thereK ps k))]) (fun _ i _ => n - (intOf i).toNat)
  case atStart => exact ⟨0, 0, none, 0, by omega, rfl, rfl, rfl, HS0.out⟩
  case round =>
    clear HS0
    obtain ⟨k, m, A', c', hk, rfl, rfl, HM, hS⟩ := hrel
    have hm : m ≤ 1000 := by have h1 := HM.out; have h2 := thereK_len ps k; omega
    by_cases hlt : k < n
    · have hkl : k < ps.length := by rw [HL.out]; exact hlt
      obtain ⟨ad, hA, _, had, hc⟩ := (hR.below hS.below_).at_ hlt
      have e0 := hc (ptrV ps[k]) (by simp [List.getElem?_eq_getElem hkl])
      have hg : ps.getD k none = ps[k] := by rw [List.getD_eq_getElem?_getD, List.getElem?_eq_getElem hkl]; rfl
      have hT := thereK_succ ps k
      rw [hg] at hT
      obtain ⟨p, hp⟩ : ∃ p, ps[k] = p := ⟨_, rfl⟩
      rw [hp] at e0 hT
      subst hA
      cases p with
      | none =>
        have HT := hide (show thereK ps (k + 1) = thereK ps k from by rw [hT]; simp)
        have e1 : wr.cell? (ad.add k) = some (.pointer none) := e0
        have HS := hide hS
        clear hc e0 hT hp hg hS
        go_wp2_with fail
        go_roundw
        case rel => exact ⟨k + 1, m, A', c', by omega, by go_num, rfl, by rw [HT.out]; exact HM, by rw [HT.out]; exact HS.out⟩
        case measure => simp [intOf]; omega
      | some p =>
        have HT := hide (show thereK ps (k + 1) = thereK ps k ++ [(k : Int)] from by rw [hT]; simp)
        have e1 : wr.cell? (ad.add k) = some (.pointer (some ⟨p.B, 0, none⟩)) := e0
        clear hc e0 hT hp hg
        go_wp2_with (first
          | (at_builtin
             refine wpList_app1 (cs := #[.int .i64 (k : Int)]) rfl (.tmp 15) (.tmp 17) 35 rfl (F := No) (W := w) sInt (items := [_]) hS 0 (n := m) rfl rfl rfl (by simp) rfl rfl (by omega) ?_
             intro A7 c7 w7 hS7 hC7))
        go_roundw
        case rel => exact ⟨k + 1, m + 1, A7, c7, by omega, by go_num, rfl, by show m + 1 = _; rw [HT.out, List.length_append, ← HM.out]; rfl, by rw [HT.out]; simpa [ints] using hS7⟩
        case measure => simp [intOf]; omega
    · obtain rfl : k = n := by omega
      have HS := hide hS
      clear hS
      go_wp2_with fail
      go_ret
      have h := HM.out
      subst h
      exact ⟨A', c', rfl, HS.out⟩
def Oj.new (s : Oj) (As : Option Addr) (c B g n : Nat) : Oj := { As := As, c := c, ps := s.ps ++ [some ⟨B, ⟨some ⟨g, 0, none⟩, n, n, zeroVs n⟩⟩] }
theorem Oj.abs_new (s : Oj) (As : Option Addr) (c B g n : Nat) : (s.new As c B g n).abs = s.abs ++ [some (zeroVs n)] := by simp [Oj.abs, Oj.new]
set_option maxRecDepth 100000 in
set_option maxHeartbeats 8000000 in
theorem onew_any {F : Nat → Prop} {w : World} {Be T : Nat} {cs : Array Value} {s : Oj} (hS : Sep F w w (blkI Be T cs :: ojL s)) (h0 : cs[0]? = some s.v) (hn : s.ps.length ≤ 1000) {n : Nat} (h4 : n ≤ 4) :
    Calls Try.prog 268 #[.pointer (some ⟨Be, 0, none⟩), .int .i64 n] w fun e w' => e = .returned (.tuple #[.int .i64 s.ps.length, .int .i64 0]) ∧ ∃ As' c' B g, Sep F w w' (blkI Be T (cs.setIfInBounds 0 (s.new As' c' B g n).v) :: ojL (s.new As' c' B g n)) := by
  obtain ⟨g, hg⟩ : ∃ g, w.heap.size = g := ⟨_, rfl⟩
  have hS1 := hS.blkAt 107 (vals (zeroVs n)).toArray (g := g) hg
  have hS2 : Sep F w ((w.alloc (.cells (vals (zeroVs n)).toArray 107)).alloc (.cells #[.slice (some ⟨g, 0, none⟩) n n] 119)) (blkI (g + 1) 119 #[.slice (some ⟨g, 0, none⟩) n n] :: rowI 107 2 (some ⟨g, 0, none⟩) n n (vals (zeroVs n)) :: blkI Be T cs :: ojL s) := by
    have h1 := hS1.perm (l := blkI g 107 (vals (zeroVs n)).toArray :: blkI Be T cs :: ojL s) List.perm_append_comm
    have hb : Blk (w.alloc (.cells (vals (zeroVs n)).toArray 107)) g 107 (vals (zeroVs n)).toArray := h1.get 0 rfl
    have hr := hrow_of_blk (n := n) (size := 2) hb (by have := vals_length (zeroVs n); simp [zeroVs] at this ⊢; omega) (by unfold maxLen; omega)
    have h2 := h1.step 0 rfl (Chg.refl _ _) (rowI 107 2 (some ⟨g, 0, none⟩) n n (vals (zeroVs n)).toArray.toList) hr (fun g' hg' => .inl (by
      have : g = g' := by simpa [rowI, Value.ownBlock] using hg'
      exact this.symm))
    exact (h2.blkAt 119 #[.slice (some ⟨g, 0, none⟩) n n] (g := g + 1) (by simp [hg])).perm List.perm_append_comm
  obtain ⟨c1, c2, c3, _⟩ := hS.rules 0 (g := Be) (t := T) rfl
  obtain ⟨m, hm⟩ : ∃ m, s.ps.length = m := ⟨_, rfl⟩
  have HM := hide hm
  unfold Oj.v at h0
  rw [hm] at h0
  have c5 := (c1 0).trans h0
  have hmk := hval_make n h4
  have hS3 : Sep F w ((w.alloc (.cells (vals (zeroVs n)).toArray 107)).alloc (.cells #[.slice (some ⟨g, 0, none⟩) n n] 119)) (blkI (g + 1) 119 #[.slice (some ⟨g, 0, none⟩) n n] :: rowI 107 2 (some ⟨g, 0, none⟩) n n (vals (zeroVs n)) :: blkI Be T cs :: rowI 170 1 s.As m s.c (s.ps.map ptrV) :: s.ps.map opI) := by rw [← hm]; exact hS2
  have HS3 := hide hS3
  rw [hm] at hn ⊢
  have HFIN := hide (fun (X : World) (A' : Option Addr) (c' : Nat) (h : Sep F w X (blkI (g + 1) 119 #[.slice (some ⟨g, 0, none⟩) n n] :: rowI 107 2 (some ⟨g, 0, none⟩) n n (vals (zeroVs n)) :: blkI Be T (cs.setIfInBounds 0 (.slice A' (m + 1) c')) :: rowI 170 1 A' (m + 1) c' (s.ps.map ptrV ++ [.pointer (some ⟨g + 1, 0, none⟩)]) :: s.ps.map opI)) =>
    (show Sep F w X (blkI Be T (cs.setIfInBounds 0 (s.new A' c' (g + 1) g n).v) :: ojL (s.new A' c' (g + 1) g n)) from by
      have h1 := (h.join (l := [_, _])).perm (l := blkI Be T (cs.setIfInBounds 0 (.slice A' (m + 1) c')) :: rowI 170 1 A' (m + 1) c' (s.ps.map ptrV ++ [.pointer (some ⟨g + 1, 0, none⟩)]) :: (s.ps.map opI ++ [opI (some ⟨g + 1, ⟨some ⟨g, 0, none⟩, n, n, zeroVs n⟩⟩)])) (List.perm_append_singleton _ _).symm
      unfold ojL Oj.new Oj.v
      dsimp only
      rw [List.length_append, List.length_singleton, HM.out, List.map_append, List.map_append]
      exact h1))
  have d1 : (w.alloc (.cells (vals (zeroVs n)).toArray 107)).cell? ⟨Be, 0, none⟩ = some (.slice s.As m s.c) := (World.cell?_alloc_lt w _ _ c3).trans c5
  have d2 : ((w.alloc (.cells (vals (zeroVs n)).toArray 107)).alloc (.cells #[.slice (some ⟨g, 0, none⟩) n n] 119)).cell? ⟨Be, 0, none⟩ = some (.slice s.As m s.c) := (World.cell?_alloc_lt _ _ _ (by simp; omega)).trans d1
  have d3 : (((w.alloc (.cells (vals (zeroVs n)).toArray 107)).alloc (.cells #[.slice (some ⟨g, 0, none⟩) n n] 119)).alloc (.cells #[.pointer (some ⟨g + 1, 0, none⟩)] 170)).cell? ⟨Be, 0, none⟩ = some (.slice s.As m s.c) := (World.cell?_alloc_lt _ _ _ (by simp; omega)).trans d2
  have hcz : 0 < cs.size := by
    rcases Nat.eq_zero_or_pos cs.size with h | h
    · rw [Array.getElem?_eq_none (by omega)] at h0; cases h0
    · exact h
  have hq (v : Value) : (cs.setIfInBounds 0 v)[0]? = some v := by simp [hcz]
  have HQ := hide hq
  have HC0 := hide h0
  clear hS1 hS2 hS3 hS hm c1 h0 hq hcz
  go_enter Try.func268, Try.ntmps268
  go_wp2_with fail
  go_region_law (first
    | (refine step_app1d (cs := #[.pointer (some ⟨g + 1, 0, none⟩)]) rfl (.tmp 9) (.tmp 14) 101 rfl (F := F) (W := w) sPtr (items := _ :: _ :: _ :: _ :: _) HS3.out 3 (n := m) rfl rfl rfl (by simp [hg]) rfl rfl (by omega) ?_
       intro A7 c7 w7 hS7 hC7
       obtain ⟨z1, z2, z3, z4⟩ := hS7.rules 2 (g := Be) (t := T) rfl
       (have z5 := (z1 0).trans HC0.out)
       clear z1 z4))
  all_goals
    have HX := hide (HFIN.out _ _ _ (hS7.set_ 2 (g := Be) (t := T) rfl 0 (.slice A7 (m + 1) c7)))
    have q1 : (w7.setCell ⟨Be, 0, none⟩ (.slice A7 (m + 1) c7)).cell? ⟨Be, 0, none⟩ = some (.slice A7 (m + 1) c7) := (((hS7.set_ 2 (g := Be) (t := T) rfl 0 (.slice A7 (m + 1) c7)).rules 2 (g := Be) (t := T) rfl).1 0).trans (HQ.out _)
    clear hS7 hC7
    go_wp2_with fail
    refine bodyPost_ret (v := .tuple #[.int .i64 m, .int .i64 0]) (by simp [results, Try.results268, go_sem]) rfl ⟨rfl, A7, c7, g + 1, g, HX.out⟩
end Go.Proofs.Ytjphckfbbiehdaa
