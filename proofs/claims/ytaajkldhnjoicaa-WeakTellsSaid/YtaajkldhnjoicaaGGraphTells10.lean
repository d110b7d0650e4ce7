/- A graph that comes in, opened. -/
import Derived.Test.YtaajkldhnjoicaaGGraphTells9
import Derived.Test.YtaajkldhnjoicaaGGraphTells1
set_option linter.unusedSimpArgs false
set_option linter.unusedVariables false
namespace Go.Proofs.Ytaajkldhnjoicaa
open Go.ChangeShapes Go.WideShapes Go.Deep Go.RowKit

theorem vals_at_ (l : List Val) (q r : Nat) (hr : r < 2) : (vals l)[q * 2 + r]? = (l[q]?).bind fun d => [Value.bool d.1, .int .i64 d.2][r]? := by
  unfold vals
  induction l generalizing q with
  | nil => rfl
  | cons a l ih =>
    rw [List.flatMap_cons]
    cases q with
    | zero => rw [List.getElem?_append_left (by simp; omega)]; simp
    | succ q => rw [List.getElem?_append_right (by simp; omega), show (q + 1) * 2 + r - [Value.bool a.1, .int .i64 a.2].length = q * 2 + r by simp; omega, ih]; rfl

section
variable {H : Type} {enc : TypeId × Value → H} {P : Program} {w : World} {base : Nat} {spare : Nat → Bool} {held : Bool}
/-- A slice of structs of a bool and an int. -/
theorem trod_vals {t e : TypeId} {f0 f1 : Field} {fuel : Nat} {cs : List Value} {x : DataW H × List MemPlace} (ht : P.underlying t = some (.slice e)) (he : P.underlying e = some (.struct #[f0, f1])) (hone : oneCellFields P #[f0, f1] = true) (hC : P.cellsOf e = 2)
    (i0 : P.underlying f0.type = some .bool) (i1 : P.underlying f1.type = some (.int .i64)) (h : DataW.trod enc P w base spare held fuel t cs = some x) :
    ∃ (A : Option Addr) (n c : Nat) (l : List Val), cs = [.slice A n c] ∧ n ≤ 9223372036854775807 ∧ Rd w (fun _ => True) 2 A n (vals l) := by
  rcases open_slice ht h with ⟨h0, _⟩ | ⟨a, n, c, m, n0, D, Pl, rfl, _, hl, hm, hmm, _, hx⟩
  · exact ⟨none, 0, 0, [], h0, by omega, Rd.nil⟩
  · have hle : n ≤ m := by rw [hmm]; split <;> omega
    have hmx : c ≤ 9223372036854775807 := by simpa [maxLen] using hm
    have key : ∀ i, i < n → ∃ x : Val, w.cell? (a.add (i * 2)) = some (.bool x.1) ∧ w.cell? (a.add (i * 2 + 1)) = some (.int .i64 x.2) := by
      intro i hi'
      obtain ⟨cs', h1, h2⟩ := hx i (by omega)
      rw [hC] at h1
      obtain ⟨_, hcl, hat⟩ := World.cells?_some h1
      obtain ⟨y0, y1, n', _, _, hj0, hj1⟩ := trod_struct2 he h2
      obtain ⟨o0, k0⟩ := hone_of hone 0 f0 rfl
      obtain ⟨o1, k1⟩ := hone_of hone 1 f1 rfl
      rw [o0, k0] at hj0
      rw [o1, k1] at hj1
      obtain ⟨b, e0, _⟩ := DataW.trod_bool i0 hj0
      obtain ⟨k, e1, _, _⟩ := DataW.trod_int i1 hj1
      refine ⟨(b, k), ?_, ?_⟩
      · have h3 := hat 0 (by omega)
        have e2 := congrArg (fun l => l[0]?) e0
        have e3 : cs'[0]? = some (.bool b) := by simpa [List.getElem?_take, List.getElem?_drop] using e2
        rw [← e3, ← h3, add_of_add, Nat.add_zero]
      · have h3 := hat 1 (by omega)
        have e2 := congrArg (fun l => l[0]?) e1
        have e3 : cs'[1]? = some (.int .i64 k) := by simpa [List.getElem?_take, List.getElem?_drop] using e2
        rw [← e3, ← h3, add_of_add]
    obtain ⟨f, hf'⟩ := choose_lt key
    refine ⟨some a, n, c, (List.range n).map f, rfl, by omega, ?_, ?_⟩
    · rw [vals_length]; simp
    · intro hn
      refine ⟨a, rfl, trivial, ?_, ?_⟩
      · have := block_lt_ (hf' 0 hn).1
        simpa [block_of_add] using this
      · intro j u hu
        obtain ⟨q, r, hr, rfl⟩ : ∃ q r, r < 2 ∧ j = q * 2 + r := ⟨j / 2, j % 2, Nat.mod_lt _ (by omega), by omega⟩
        rw [vals_at_ _ _ _ hr] at hu
        simp only [List.getElem?_map] at hu
        rcases Nat.lt_or_ge q n with hq | hq
        case inr => rw [List.getElem?_eq_none (by simp; omega)] at hu; cases hu
        rw [List.getElem?_range hq] at hu
        simp only [Option.map_some, Option.bind_some] at hu
        obtain ⟨g0, g1⟩ := hf' q hq
        rcases (show r = 0 ∨ r = 1 by omega) with rfl | rfl
        · simp at hu; subst hu; simpa using g0
        · simp at hu; subst hu; exact g1

/-- A slice of structs of one such slice. -/
theorem trod_objs {t e tf te : TypeId} {f f0 f1 : Field} {fuel : Nat} {cs : List Value} {x : DataW H × List MemPlace} (ht : P.underlying t = some (.slice e)) (he : P.underlying e = some (.struct #[f])) (hone1 : oneCellFields P #[f] = true) (hC1 : P.cellsOf e = 1) (hft : f.type = tf)
    (htf : P.underlying tf = some (.slice te)) (hte : P.underlying te = some (.struct #[f0, f1])) (hone : oneCellFields P #[f0, f1] = true) (hC : P.cellsOf te = 2)
    (i0 : P.underlying f0.type = some .bool) (i1 : P.underlying f1.type = some (.int .i64)) (h : DataW.trod enc P w base spare held fuel t cs = some x) :
    ∃ (A : Option Addr) (n c : Nat) (l : List Ob), cs = [.slice A n c] ∧ n ≤ 9223372036854775807 ∧ ObsRd w (fun _ => True) A n l := by
  rcases open_slice1 ht hC1 h with ⟨h0, _⟩ | ⟨a, n, c, m, n0, V, D, Pl, rfl, _, hl, hm, hmm, _, hx⟩
  · exact ⟨none, 0, 0, [], h0, by omega, ⟨Rd.nil, fun o ho => by cases ho⟩⟩
  · have hle : n ≤ m := by rw [hmm]; split <;> omega
    have hmx : c ≤ 9223372036854775807 := by simpa [maxLen] using hm
    have key : ∀ i, i < n → ∃ o : Ob, w.cell? (a.add i) = some o.val ∧ Rd w (fun _ => True) 2 o.A o.n (vals o.fields) := by
      intro i hi'
      obtain ⟨h1, h2⟩ := hx i (by omega)
      obtain ⟨y0, n', _, _, hj0⟩ := trod_struct1 he h2
      obtain ⟨o0, k0⟩ := hone_of hone1 0 f rfl
      rw [o0, k0, hft] at hj0
      obtain ⟨A', n1, c1, l1, e1, _, hr⟩ := trod_vals htf hte hone hC i0 i1 hj0
      refine ⟨⟨A', n1, c1, l1⟩, ?_, hr⟩
      have e2 := congrArg (fun l => l[0]?) e1
      have e3 : V i = .slice A' n1 c1 := by simpa using e2
      rw [h1, e3]; rfl
    haveI : Inhabited Ob := ⟨⟨none, 0, 0, []⟩⟩
    obtain ⟨g, hg⟩ := choose_lt key
    refine ⟨some a, n, c, (List.range n).map g, rfl, by omega, ⟨⟨by simp, fun hn => ⟨a, rfl, trivial, ?_, ?_⟩⟩, fun o ho => ?_⟩⟩
    · have := block_lt_ (hg 0 hn).1
      simpa [block_of_add] using this
    · intro j u hu
      simp only [List.getElem?_map] at hu
      rcases Nat.lt_or_ge j n with hq | hq
      case inr => rw [List.getElem?_eq_none (by simp; omega)] at hu; cases hu
      rw [List.getElem?_range hq] at hu
      simp at hu
      subst hu
      exact (hg j hq).1
    · obtain ⟨j, hj, rfl⟩ := List.mem_map.1 ho
      exact (hg j (List.mem_range.1 hj)).2
end
end Go.Proofs.Ytaajkldhnjoicaa
