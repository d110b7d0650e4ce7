/- A machine over a memory without end: what it has in memory; its registers; a value's place in a row. A machine over a memory without end: a field becomes a value; a new object; a register becomes a value. A machine over a memory without end: a new object; a register becomes a value; what is wrong with a field. A machine over a memory without end: a register becomes a value; what is wrong with a field. -/
import Derived.Test.YtjphckfbbiehdaaSReplicaPlays4
import Derived.Deep.RegionHeld3
import Derived.Deep.OwnRows
set_option linter.unusedSimpArgs false
set_option linter.unusedVariables false
namespace Go.Proofs.Ytjphckfbbiehdaa
open Go.RowKit
/-- An object behind a pointer. -/
structure Po where
  B : Nat
  o : Ob
def poI (p : Po) : Item := allI [blkI p.B 119 #[.slice p.o.A p.o.n p.o.c], obI p.o]
def mcCells (regs : List Val) (f : Value) : Array Value := (vals regs ++ [f]).toArray
/-- What a machine with a memory without end has in hand. -/
structure Idl where
  As : Option Addr
  c : Nat
  ps : List Po
  regs : List Val
abbrev idF (Be : Nat) : Value := .iface 183 (.pointer (some ⟨Be, 0, none⟩))
def idL (Bm Be : Nat) (s : Idl) : List Item :=
  blkI Bm 113 (mcCells s.regs (idF Be)) :: blkI Be 185 #[.slice s.As s.ps.length s.c] :: rowI 170 1 s.As s.ps.length s.c (s.ps.map fun p => .pointer (some ⟨p.B, 0, none⟩)) :: s.ps.map poI
def idI (Bm Be : Nat) (s : Idl) : Item := allI (idL Bm Be s)
theorem vals_app (a b : List Val) : vals (a ++ b) = vals a ++ vals b := by simp [vals]
theorem vals_set2 (l : List Val) (j : Nat) (b : Bool) (m : Int) : ((vals l).set (j * 2) (.bool b)).set (j * 2 + 1) (.int .i64 m) = vals (l.set j (b, m)) := by
  unfold vals
  induction l generalizing j with
  | nil => rfl
  | cons a l ih =>
    cases j with
    | zero => rfl
    | succ j =>
      rw [List.flatMap_cons, show (j + 1) * 2 = j * 2 + 1 + 1 from by omega, show j * 2 + 1 + 1 + 1 = (j * 2 + 1) + 1 + 1 from by omega]
      simp only [List.cons_append, List.nil_append, List.set_cons_succ, List.flatMap_cons]
      rw [ih]
theorem mc_reg {regs : List Val} {f : Value} {r : Nat} (h : r < regs.length) : (mcCells regs f)[r * 2]? = some (.bool regs[r].1) ∧ (mcCells regs f)[r * 2 + 1]? = some (.int .i64 regs[r].2) := by
  obtain ⟨v0, v1⟩ := vals_at regs r h
  have hl := vals_length regs
  unfold mcCells
  simp only [List.getElem?_toArray]
  refine ⟨(List.getElem?_append_left (by omega)).trans v0, (List.getElem?_append_left (by omega)).trans v1⟩
theorem mc_if {regs : List Val} {f : Value} (h : regs.length = 8) : (mcCells regs f)[16]? = some f := by
  have hl := vals_length regs
  unfold mcCells
  simp only [List.getElem?_toArray]
  rw [List.getElem?_append_right (by omega)]
  simp [hl, h]
theorem mc_set {regs : List Val} {f : Value} {r : Nat} (h : r < regs.length) (v : Val) : ((mcCells regs f).setIfInBounds (r * 2) (.bool v.1)).setIfInBounds (r * 2 + 1) (.int .i64 v.2) = mcCells (regs.set r v) f := by
  have hl := vals_length regs
  unfold mcCells
  rw [List.setIfInBounds_toArray, List.setIfInBounds_toArray, List.set_append_left _ _ (by omega), List.set_append_left _ _ (by rw [List.length_set]; omega), vals_set2]
theorem recv_run (Be : Nat) (w : World) : (receiverAt 101 (.var ⟨Be, 0, none⟩) false none).run Try.prog w = ((loadVar 101 ⟨Be, 0, none⟩).run Try.prog w) := by kernel_rfl
theorem recv_load (Be : Nat) (w : World) : (loadVar 101 ⟨Be, 0, none⟩).run Try.prog w = ((load ⟨Be, 0, none⟩).run Try.prog w) := by kernel_rfl
theorem recv_cell (Be : Nat) (w : World) (v : Value) (h : w.cell? ⟨Be, 0, none⟩ = some v) : (receiverAt 101 (.var ⟨Be, 0, none⟩) false none).run Try.prog w = .ok v w := by
  rw [recv_run, recv_load]
  simp [go_sem, h]
theorem hraddr0 (g j : Nat) : (⟨g, 0, none⟩ : Addr).add j = ⟨g, j, none⟩ := by
  unfold Addr.add; split <;> simp_all
theorem hown_addr {w : World} {b e size n c : Nat} {A : Option Addr} {xs : List Value} (h : w.ownsRow b e size (.slice A n c) n xs) (hn : 0 < n) : ∃ g, A = some ⟨g, 0, none⟩ := by
  rcases h.2 with ⟨hv, rfl⟩ | ⟨g, cap, cur, hv, _⟩
  · injection hv with _ h2 _; omega
  · exact ⟨g, by injection hv⟩
theorem hrow_val {w : World} {n c g : Nat} {l : List Val} (h : (rowI 107 2 (some ⟨g, 0, none⟩) n c (vals l)).P w) (j : Nat) (hj : j < n) (hjl : j < l.length) :
    w.cell? ⟨g, j * 2, none⟩ = some (.bool l[j].1) ∧ w.cell? ⟨g, j * 2 + 1, none⟩ = some (.int .i64 l[j].2) ∧ w.frozen? ⟨g, j * 2, none⟩ = false ∧ w.frozen? ⟨g, j * 2 + 1, none⟩ = false := by
  have ho : w.ownsRow 0 107 2 (.slice (some ⟨g, 0, none⟩) n c) n (vals l) := h
  obtain ⟨fd, hA, _, _, hc3, hd3⟩ := (Rd.of_own (D := fun _ => True) ho (fun _ _ => trivial)).atN hj
  obtain rfl : (⟨g, 0, none⟩ : Addr) = fd := by injection hA
  obtain ⟨v0, v1⟩ := vals_at l j hjl
  have e2 := hc3 _ v0
  have e3 := hd3 0 _ v1
  rw [hraddr0] at e2 e3
  exact ⟨e2, e3, ho.frozenAt _, ho.frozenAt _⟩
end Go.Proofs.Ytjphckfbbiehdaa

namespace Go.Proofs.Ytjphckfbbiehdaa
open Go.RowKit
def Po.put (p : Po) (k : Nat) (v : Val) : Po := ⟨p.B, ⟨p.o.A, p.o.n, p.o.c, p.o.fields.set k v⟩⟩
def Idl.put (s : Idl) (i k : Nat) (v : Val) (h : i < s.ps.length) : Idl := { s with ps := s.ps.set i (s.ps[i].put k v) }
end Go.Proofs.Ytjphckfbbiehdaa

namespace Go.Proofs.Ytjphckfbbiehdaa
open Go.RowKit
theorem hrow_of_blk {w : World} {g t size n : Nat} {cs : Array Value} (h : Blk w g t cs) (hs : cs.size = n * size) (hm : n ≤ maxLen) : (rowI t size (some ⟨g, 0, none⟩) n n cs.toList).P w :=
  ⟨by rw [Array.length_toList, hs], .inr ⟨g, n, cs, rfl, Nat.zero_le _, h, Nat.le_refl _, hm, hs, by rw [List.take_of_length_le (by rw [Array.length_toList]; omega)]⟩⟩
def zeroVs (n : Nat) : List Val := List.replicate n (false, 0)
theorem hval_info : (Try.prog.info? 107).map (fun i => (i.zero, i.size, i.bytes)) = some (some (.agg #[.bool false, .int .i64 0]), 2, 16) := by kernel_rfl
theorem hmade (n : Nat) (hn : n ≤ 4) : madeCells #[.bool false, .int .i64 0] (n * 2) = (vals (zeroVs n)).toArray := by
  rcases (show n = 0 ∨ n = 1 ∨ n = 2 ∨ n = 3 ∨ n = 4 from by omega) with rfl | rfl | rfl | rfl | rfl <;> (apply Array.toList_inj.1; simp [madeCells, vals, zeroVs, List.range_succ, List.replicate])
theorem hval_make (n : Nat) (hn : n ≤ 4) : ∀ w : World, (Instr.makeSlice 25 (.int .i64 (n : Int)) (.int .i64 (n : Int))).run Try.prog w = .ok (.slice (some ⟨w.heap.size, 0, none⟩) n n) (w.alloc (.cells (vals (zeroVs n)).toArray 107)) := by
  intro w
  obtain ⟨i, hi, hz, hs, hb⟩ := info_parts hval_info
  have h := run_make w 25 107 i _ Try.underlying25 hi hz .i64 .i64 n n (by omega) (Int.le_refl _) (by rw [hb]; omega) (by omega)
  simp only [Int.toNat_natCast, hs] at h
  rw [show (Value.agg #[.bool false, .int .i64 0]).cells = #[.bool false, .int .i64 0] from rfl, hmade n hn] at h
  exact h
theorem sPtr : SliceT Try.prog 101 170 1 8 := SliceT.mk_ Try.underlying101 (z := .pointer none) (by kernel_rfl) rfl (by omega)
def Idl.new (s : Idl) (As : Option Addr) (c B g n : Nat) : Idl := { s with As := As, c := c, ps := s.ps ++ [⟨B, ⟨some ⟨g, 0, none⟩, n, n, zeroVs n⟩⟩] }
end Go.Proofs.Ytjphckfbbiehdaa

namespace Go.Proofs.Ytjphckfbbiehdaa
open Go.RowKit
def Idl.set (s : Idl) (r : Nat) (v : Val) : Idl := { s with regs := s.regs.set r v }
end Go.Proofs.Ytjphckfbbiehdaa
