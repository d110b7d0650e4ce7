/- slices.Sort of numbers, as a thing of the call's own is sorted. Contracts of the library, laid by the shelf. slices.Sort of numbers: its contract. -/
import Derived.Shelf.Sort.Plain
import Derived.Shelf.Slices.In.SortNone
import Derived.Test.YtaajkldhnjoicaaGGraphTells1
import Derived.Test.YtaajkldhnjoicaaProg
set_option linter.unusedSimpArgs false
set_option linter.unusedVariables false
namespace Go.Proofs.Ytaajkldhnjoicaa
open Go.RowKit Go.Sort

/-- A row that the library has laid anew. -/
theorem row_put {w : World} {e g n c k : Nat} {l d : List Int} {os : Array Obj} (hs : (rowI e 1 (some ⟨g, 0, none⟩) n c (ints l)).P w) (hd : d.length = l.length) :
    Sep (rowI e 1 (some ⟨g, 0, none⟩) n c (ints l)).fp w (grow (putRow (Value.int .i64) (Sort.ahead w k) g 0 d.toArray) os) [rowI e 1 (some ⟨g, 0, none⟩) n c (ints d)] := by
  have hrow : w.ownsRow 0 e 1 (.slice (some ⟨g, 0, none⟩) n c) n (ints l) := hs
  have hlt : g < w.heap.size := (hrow.lt g rfl).2
  have hln : l.length = n := by have := hrow.1; simpa using this
  obtain ⟨h1, h2⟩ := hrow
  rcases h2 with ⟨hv, _⟩ | ⟨g', cap, cur, hv, _, hh, hnc, hcm, hcs, htk⟩
  · cases hv
  · injection hv with e1 e2 e3
    injection e1 with e1
    injection e1 with e1
    subst e1; subst e3
    have hsz : (grow (putRow (Value.int .i64) (Sort.ahead w k) g 0 d.toArray) os).heap.size = w.heap.size + os.size := by simp [grow, putRow, mapBlock, Sort.ahead]
    have hb : ∀ j, j < w.heap.size → j ≠ g → (grow (putRow (Value.int .i64) (Sort.ahead w k) g 0 d.toArray) os).heap[j]? = w.heap[j]? := fun j hj hne => by
      show ((w.heap.modify g _) ++ os)[j]? = _
      rw [Array.getElem?_append_left (by simpa using hj), Array.getElem?_modify, if_neg (fun h => hne h.symm)]
    have hg : (grow (putRow (Value.int .i64) (Sort.ahead w k) g 0 d.toArray) os).heap[g]? = some (.cells (putCells (Value.int .i64) 0 d.toArray cur) e (0, 0)) := by
      show ((w.heap.modify g _) ++ os)[g]? = _
      rw [Array.getElem?_append_left (by simpa using hlt), Array.getElem?_modify, if_pos rfl, hh]
      rfl
    refine ⟨⟨rfl, rfl, rfl, by omega, fun j hj hn => hb j hj (fun e => hn (by subst e; rfl))⟩, ?_, ?_, by simp⟩
    · intro i hi
      have : i = rowI e 1 (some ⟨g, 0, none⟩) n c (ints d) := by simpa using hi
      subst this
      refine ⟨by simp; omega, .inr ⟨g, c, _, rfl, Nat.zero_le _, hg, hnc, hcm, by simp [putCells]; omega, ?_⟩⟩
      refine List.ext_getElem? fun j => ?_
      rw [List.getElem?_take]
      by_cases hj : j < n
      · rw [if_pos (by omega)]
        have hjc : j < cur.size := by omega
        simp only [putCells, Array.getElem?_toList, Array.getElem?_mapIdx, Array.getElem?_eq_getElem hjc, Option.map_some]
        rw [if_pos (by simp; omega)]
        have hjd : j < d.length := by omega
        simp [ints, List.getElem?_eq_getElem hjd]
      · rw [if_neg (by omega)]
        rw [List.getElem?_eq_none (by simp; omega)]
    · intro i hi j hj
      have : i = rowI e 1 (some ⟨g, 0, none⟩) n c (ints d) := by simpa using hi
      subst this
      exact .inl hj
theorem holds_row {w : World} {e g n c : Nat} {l : List Int} (hs : (rowI e 1 (some ⟨g, 0, none⟩) n c (ints l)).P w) : Holds (Value.int .i64) w g 0 l.toArray ∧ g < w.heap.size := by
  have hrow : w.ownsRow 0 e 1 (.slice (some ⟨g, 0, none⟩) n c) n (ints l) := hs
  have hln : l.length = n := by have := hrow.1; simpa using this
  refine ⟨fun j hj => ?_, (hrow.lt g rfl).2⟩
  have hj2 : j < l.length := by simpa using hj
  rw [Nat.zero_add]
  refine ⟨?_, hrow.frozenAt j⟩
  rw [hrow.cellAt j (by omega)]
  simp [ints, List.getElem?_eq_getElem hj2]
end Go.Proofs.Ytaajkldhnjoicaa

namespace Go.Proofs.Ytaajkldhnjoicaa
open Go.Shelf
def shelf_lays189_ren : Go.Shelf.Ren := ⟨fun | 189 => 113 | 125 => 142 | 257 => 141 | 128 => 156 | 129 => 157 | 294 => 147 | 295 => 148 | 296 => 149 | 297 => 150 | 298 => 151 | 299 => 152 | 216 => 153 | 300 => 154 | 301 => 155 | 328 => 160 | 329 => 161 | 330 => 162 | 331 => 163 | 332 => 164 | 215 => 165 | 343 => 166 | n => n, fun | 28 => 35 | 3 => 3 | 46 => 81 | 0 => 0 | 51 => 195 | 53 => 80 | 4 => 4 | 183 => 188 | 182 => 187 | 131 => 114 | 5 => 5 | 9 => 9 | 218 => 201 | 222 => 205 | 228 => 207 | 229 => 208 | n => n, fun | n => n⟩
theorem shelf_lays189 : Go.Proofs.Lays.n189 Try.prog shelf_lays189_ren := {
  mixed := by kernel_rfl
  f125 := Try.func142.trans (congrArg some (by kernel_rfl))
  f128 := Try.func156.trans (congrArg some (by kernel_rfl))
  f129 := Try.func157.trans (congrArg some (by kernel_rfl))
  f189 := Try.func113.trans (congrArg some (by kernel_rfl))
  f215 := Try.func165.trans (congrArg some (by kernel_rfl))
  f216 := Try.func153.trans (congrArg some (by kernel_rfl))
  f257 := Try.func141.trans (congrArg some (by kernel_rfl))
  f294 := Try.func147.trans (congrArg some (by kernel_rfl))
  f295 := Try.func148.trans (congrArg some (by kernel_rfl))
  f296 := Try.func149.trans (congrArg some (by kernel_rfl))
  f297 := Try.func150.trans (congrArg some (by kernel_rfl))
  f298 := Try.func151.trans (congrArg some (by kernel_rfl))
  f299 := Try.func152.trans (congrArg some (by kernel_rfl))
  f300 := Try.func154.trans (congrArg some (by kernel_rfl))
  f301 := Try.func155.trans (congrArg some (by kernel_rfl))
  f328 := Try.func160.trans (congrArg some (by kernel_rfl))
  f329 := Try.func161.trans (congrArg some (by kernel_rfl))
  f330 := Try.func162.trans (congrArg some (by kernel_rfl))
  f331 := Try.func163.trans (congrArg some (by kernel_rfl))
  f332 := Try.func164.trans (congrArg some (by kernel_rfl))
  f343 := Try.func166.trans (congrArg some (by kernel_rfl))
  t0 := Try.underlying0
  a0 := Try.isAgg0
  z0 := Try.sizeOf0
  v0 := Try.zeroValue0
  t3 := Try.underlying3
  a3 := Try.isAgg3
  z3 := Try.sizeOf3
  v3 := Try.zeroValue3
  t4 := Try.underlying4
  a4 := Try.isAgg4
  z4 := Try.sizeOf4
  v4 := Try.zeroValue4
  t5 := Try.underlying5
  a5 := Try.isAgg5
  z5 := Try.sizeOf5
  v5 := Try.zeroValue5
  t9 := Try.underlying9
  a9 := Try.isAgg9
  z9 := Try.sizeOf9
  v9 := Try.zeroValue9
  t28 := Try.underlying35
  a28 := Try.isAgg35
  z28 := Try.sizeOf35
  v28 := Try.zeroValue35
  t46 := Try.underlying81
  a46 := Try.isAgg81
  z46 := Try.sizeOf81
  v46 := Try.zeroValue81
  t51 := Try.underlying195
  a51 := Try.isAgg195
  z51 := Try.sizeOf195
  v51 := Try.zeroValue195
  t53 := Try.underlying80
  a53 := Try.isAgg80
  z53 := Try.sizeOf80
  v53 := Try.zeroValue80
  t131 := Try.underlying114
  a131 := Try.isAgg114
  z131 := Try.sizeOf114
  v131 := Try.zeroValue114
  t182 := Try.underlying187
  a182 := Try.isAgg187
  z182 := Try.sizeOf187
  v182 := Try.zeroValue187
  t183 := Try.underlying188
  a183 := Try.isAgg188
  z183 := Try.sizeOf188
  v183 := Try.zeroValue188
  t218 := Try.underlying201
  a218 := Try.isAgg201
  z218 := Try.sizeOf201
  v218 := Try.zeroValue201
  t222 := Try.underlying205
  a222 := Try.isAgg205
  z222 := Try.sizeOf205
  v222 := Try.zeroValue205
  t228 := Try.underlying207
  a228 := Try.isAgg207
  z228 := Try.sizeOf207
  v228 := Try.zeroValue207
  t229 := Try.underlying208
  a229 := Try.isAgg208
  z229 := Try.sizeOf208
  v229 := Try.zeroValue208 }
open Go.Sort Go.RowKit in
theorem shelf_slices_Sort_int (blk off cap : Nat) (zs : List Int) (w : World) (hH : Holds (Value.int .i64) w blk off zs.toArray) (hblk : blk < w.heap.size) (hsz : zs.length < 4611686018427387904) :
    Calls Try.prog 113 #[.slice (some ⟨blk, off, none⟩) zs.length cap] w fun e w' =>
      e = .returned (.tuple #[]) ∧ ∃ n os, w' = grow (putRow (Value.int .i64) (Sort.ahead w n) blk off (zs.mergeSort fun x y => decide (x ≤ y)).toArray) os := Any.slices_Sort_int shelf_lays189 blk off cap zs w hH hblk hsz
open Go.RowKit Go.Sort in
theorem shelf_slices_Sort_int_none (p : Option Addr) (cap : Nat) (w : World) :
    Calls Try.prog 113 #[.slice p 0 cap] w fun e w' => e = .returned (.tuple #[]) ∧ w' = w := Any.slices_Sort_int_none shelf_lays189 p cap w
end Go.Proofs.Ytaajkldhnjoicaa

namespace Go.Proofs.Ytaajkldhnjoicaa
open Go.RowKit

theorem sort_any (w : World) (A : Option Addr) (n c : Nat) (l : List Int) (hs : (rowI 3 1 A n c (ints l)).P w) (hn : n ≤ 1000) :
    Calls Try.prog 113 #[.slice A n c] w fun e w' => (∃ v, e = .returned v) ∧ Sep (rowI 3 1 A n c (ints l)).fp w w' [rowI 3 1 A n c (ints (l.mergeSort fun x y => decide (x ≤ y)))] := by
  have hrow : w.ownsRow 0 3 1 (.slice A n c) n (ints l) := hs
  have hln : l.length = n := by have := hrow.1; simpa using this
  rcases hrow.2 with ⟨hv, h0⟩ | ⟨g, cap, cur, hv, _⟩
  · injection hv with e1 e2 e3
    subst e1; subst e2; subst e3
    have hl : l = [] := List.eq_nil_of_length_eq_zero hln
    subst hl
    refine (shelf_slices_Sort_int_none none 0 w).mono ?_
    rintro e w' ⟨rfl, rfl⟩
    exact ⟨⟨_, rfl⟩, by simpa using Sep.start hs⟩
  · injection hv with e1 e2 e3
    subst e1
    have h := holds_row hs
    have hc := shelf_slices_Sort_int g 0 c l w h.1 h.2 (by omega)
    rw [hln] at hc
    refine hc.mono ?_
    rintro e w' ⟨rfl, k, os, rfl⟩
    exact ⟨⟨_, rfl⟩, row_put hs (by simp)⟩
end Go.Proofs.Ytaajkldhnjoicaa
