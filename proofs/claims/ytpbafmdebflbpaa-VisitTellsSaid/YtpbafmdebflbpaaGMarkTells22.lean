/- Arguments that are slices, opened to lists of cells. A slice of words that comes in, opened. -/
import Derived.Test.YtpbafmdebflbpaaGMarkTells0
import Derived.Deep.Slices
import Derived.Deep.Fields
import Derived.ChangeSame
import Derived.Test.YtpbafmdebflbpaaGMarkTells6
set_option linter.unusedSimpArgs false
set_option linter.unusedVariables false
namespace Go.Proofs.Ytpbafmdebflbpaa
open Go.ChangeShapes Go.WideShapes Go.Deep Go.RowKit

theorem block_lt_ {w : World} {a : Addr} {v : Value} (h : w.cell? a = some v) : a.block < w.heap.size := by
  unfold World.cell? at h
  split at h
  · rename_i hb; exact (Array.getElem?_eq_some_iff.1 hb).1
  · cases h
theorem triples_length (l : List (Int × Int × Int)) : (l.flatMap fun d => [Value.int .i64 d.1, .int .i64 d.2.1, .int .i64 d.2.2]).length = l.length * 3 := by
  induction l with
  | nil => rfl
  | cons a l ih => rw [List.flatMap_cons, List.length_append, ih]; simp; omega
theorem triples_at (l : List (Int × Int × Int)) (q r : Nat) (hr : r < 3) : (l.flatMap fun d => [Value.int .i64 d.1, .int .i64 d.2.1, .int .i64 d.2.2])[q * 3 + r]? = (l[q]?).bind fun d => [Value.int .i64 d.1, .int .i64 d.2.1, .int .i64 d.2.2][r]? := by
  induction l generalizing q with
  | nil => rfl
  | cons a l ih =>
    rw [List.flatMap_cons]
    cases q with
    | zero => rw [List.getElem?_append_left (by simp; omega)]; simp
    | succ q => rw [List.getElem?_append_right (by simp; omega), show (q + 1) * 3 + r - [Value.int .i64 a.1, .int .i64 a.2.1, .int .i64 a.2.2].length = q * 3 + r by simp; omega, ih]; rfl

/-- A slice of structs of three ints. -/
theorem open_deeds {H : Type} {enc : TypeId × Value → H} {P : Program} {w : World} {base : Nat} {spare : Nat → Bool} {held : Bool} {t e : TypeId} {v : Value} {d : DataW H} {p : List MemPlace} {fs : Array Field}
    (ht : P.underlying t = some (.slice e)) (he : P.underlying e = some (.struct fs)) (hone : oneCellFields P fs = true) (hC : P.cellsOf e = 3) (hf : fs.size = 3)
    (hi : ∀ (j : Nat) (f : Field), fs[j]? = some f → P.underlying f.type = some (.int .i64)) {r : Reach} {bb : Nat} (hv : Value.okWide P w r bb t v) (h : DataW.Trod enc P w base spare held t v d p) :
    ∃ (A : Option Addr) (n c : Nat) (l : List (Int × Int × Int)), v = .slice A n c ∧ n ≤ 9223372036854775807 ∧ n ≤ c ∧ c ≤ 9223372036854775807 ∧ l.length = n ∧
      Rd w (fun _ => True) 3 A n (l.flatMap fun d => [.int .i64 d.1, .int .i64 d.2.1, .int .i64 d.2.2]) := by
  obtain ⟨A, n, c, rfl⟩ := okWide_slice ht hv
  obtain ⟨fuel, h⟩ := h
  rcases open_slice ht h with ⟨h0, _⟩ | ⟨a, len, cap, m, n0, D, Pl, hcs, _, hl, hm, hmm, _, hx⟩
  · simp [Value.cells] at h0
    obtain ⟨rfl, rfl, rfl⟩ := h0
    exact ⟨none, 0, 0, [], rfl, by omega, by omega, by omega, rfl, Rd.nil⟩
  · simp [Value.cells] at hcs
    obtain ⟨rfl, rfl, rfl⟩ := hcs
    have hle : n ≤ m := by rw [hmm]; split <;> omega
    have hmx : c ≤ 9223372036854775807 := by simpa [maxLen] using hm
    have key : ∀ i, i < n → ∃ x : Int × Int × Int, w.cell? (a.add (i * 3)) = some (.int .i64 x.1) ∧ w.cell? (a.add (i * 3 + 1)) = some (.int .i64 x.2.1) ∧ w.cell? (a.add (i * 3 + 2)) = some (.int .i64 x.2.2) := by
      intro i hi'
      obtain ⟨cs', h1, h2⟩ := hx i (by omega)
      rw [hC] at h1
      obtain ⟨_, hcl, hat⟩ := World.cells?_some h1
      obtain ⟨ys, n', _, _, _, hyl, hj⟩ := DataW.trod_struct he h2
      have one : ∀ j, j < 3 → ∃ k : Int, w.cell? (a.add (i * 3 + j)) = some (.int .i64 k) := by
        intro j hj3
        have hfj : fs[j]? = some (fs[j]'(by omega)) := Array.getElem?_eq_getElem (by omega)
        obtain ⟨ho, hk⟩ := hone_of hone j _ hfj
        have h3 := hj j _ hfj
        rw [ho, hk, List.getElem?_eq_getElem (by omega)] at h3
        obtain ⟨k, e0, _, _⟩ := DataW.trod_int (hi j _ hfj) h3
        refine ⟨k, ?_⟩
        rw [← add_of_add, hat j (by omega)]
        have e1 := congrArg (fun l => l[0]?) e0
        simpa [List.getElem?_take, List.getElem?_drop] using e1
      obtain ⟨x, hx0⟩ := one 0 (by omega)
      obtain ⟨y, hx1⟩ := one 1 (by omega)
      obtain ⟨z, hx2⟩ := one 2 (by omega)
      exact ⟨(x, y, z), hx0, hx1, hx2⟩
    obtain ⟨f, hf'⟩ := choose_lt key
    refine ⟨some a, n, c, (List.range n).map f, rfl, by omega, hl, hmx, by simp, ?_, ?_⟩
    · rw [triples_length]; simp
    · intro hn
      refine ⟨a, rfl, trivial, ?_, ?_⟩
      · have := block_lt_ (hf' 0 hn).1
        simpa [block_of_add] using this
      · intro j u hu
        obtain ⟨q, r, hr, rfl⟩ : ∃ q r, r < 3 ∧ j = q * 3 + r := ⟨j / 3, j % 3, Nat.mod_lt _ (by omega), by omega⟩
        rw [triples_at _ _ _ hr] at hu
        simp only [List.getElem?_map] at hu
        rcases Nat.lt_or_ge q n with hq | hq
        case inr => rw [List.getElem?_eq_none (by simp; omega)] at hu; cases hu
        rw [List.getElem?_range hq] at hu
        simp only [Option.map_some, Option.bind_some] at hu
        obtain ⟨g0, g1, g2⟩ := hf' q hq
        rcases (show r = 0 ∨ r = 1 ∨ r = 2 by omega) with rfl | rfl | rfl
        · simp at hu; subst hu; simpa [add_of_add] using g0
        · simp at hu; subst hu; simpa [add_of_add] using g1
        · simp at hu; subst hu; simpa [add_of_add] using g2
end Go.Proofs.Ytpbafmdebflbpaa

namespace Go.Proofs.Ytpbafmdebflbpaa
open Go.ChangeShapes Go.WideShapes Go.Deep Go.RowKit

section
variable {H : Type} {enc : TypeId × Value → H} {P : Program} {w : World} {base : Nat} {spare : Nat → Bool} {held : Bool}
theorem trod_words {t e : TypeId} {fuel : Nat} {cs : List Value} {x : DataW H × List MemPlace} (ht : P.underlying t = some (.slice e)) (hC1 : P.cellsOf e = 1) (he : P.underlying e = some (.int .u64)) (h : DataW.trod enc P w base spare held fuel t cs = some x) :
    ∃ (A : Option Addr) (n c : Nat) (l : List Int), cs = [.slice A n c] ∧ WsIn w A n c l := by
  rcases open_slice1 ht hC1 h with ⟨h0, _⟩ | ⟨a, n, c, m, n0, V, D, Pl, rfl, _, hl, hm, hmm, _, hx⟩
  · exact ⟨none, 0, 0, [], h0, ⟨Rd.nil, ⟨by omega, by omega⟩, fun _ => ⟨rfl, rfl⟩, by simp⟩⟩
  · have hle : n ≤ m := by rw [hmm]; split <;> omega
    have hmx : c ≤ 9223372036854775807 := by simpa [maxLen] using hm
    have key : ∀ i, i < n → ∃ x : Int, w.cell? (a.add i) = some (.int .u64 x) ∧ 0 ≤ x ∧ x ≤ 18446744073709551615 := by
      intro i hi
      obtain ⟨h1, h2⟩ := hx i (by omega)
      obtain ⟨k, e1, _, hw⟩ := DataW.trod_int he h2
      have hb := bounds_u64 hw
      have e2 := congrArg (fun l => l[0]?) e1
      have e3 : V i = .int .u64 k := by simpa using e2
      exact ⟨k, by rw [h1, e3], hb⟩
    obtain ⟨g, hg⟩ := choose_lt key
    refine ⟨some a, n, c, (List.range n).map g, rfl, ⟨⟨by simp [u64s], fun hn => ⟨a, rfl, trivial, ?_, ?_⟩⟩, ⟨hl, hmx⟩, (fun h => by cases h), fun y hy => ?_⟩⟩
    · have := block_lt_ (hg 0 hn).1
      simpa [block_of_add] using this
    · intro j u hu
      simp only [u64s, List.getElem?_map] at hu
      rcases Nat.lt_or_ge j n with hq | hq
      case inr => rw [List.getElem?_eq_none (by simp; omega)] at hu; cases hu
      rw [List.getElem?_range hq] at hu
      simp at hu
      subst hu
      exact (hg j hq).1
    · obtain ⟨j, hj, rfl⟩ := List.mem_map.1 hy
      exact (hg j (List.mem_range.1 hj)).2
end
end Go.Proofs.Ytpbafmdebflbpaa
