/- A slice of words that comes in, opened. -/
import Derived.Test.YtpbafmdebflbpaaOpen
import Derived.Test.YtpbafmdebflbpaaArnC
namespace Go.Proofs.Ytpbafmdebflbpaa
open Go.ChangeShapes Go.WideShapes Go.Deep Go.RowKit

section
variable {H : Type} {enc : TypeId × Value → H} {P : Program} {w : World} {base : Nat} {spare : Nat → Bool} {held : Bool}
theorem trod_words {t e : TypeId} {fuel : Nat} {cs : List Value} {x : DataW H × List MemPlace} (ht : P.underlying t = some (.slice e)) (hC1 : P.cellsOf e = 1) (he : P.underlying e = some (.int .u64)) (h : DataW.trod enc P w base spare held fuel t cs = some x) :
    ∃ (A : Option Addr) (n c : Nat) (l : List Int), cs = [.slice A n c] ∧ WsIn w A n c l := by
  rcases open_slice1 ht hC1 h with ⟨h0, _⟩ | ⟨a, n, c, m, n0, V, D, Pl, rfl, _, hl, hm, hmm, _, hx⟩
  · exact ⟨none, 0, 0, [], h0, ⟨Rd.nil, ⟨by omega, by omega⟩, fun _ => ⟨rfl, rfl⟩, by simp⟩⟩
  · have hle : n ≤ m := by rw [hmm]; split <;> omega
    have hmx : c ≤ 9223372036854775807 := by simpa [maxLen] using hm
    have key : ∀ i, i < n → ∃ x : Int, w.cell? (a.add i) = some (.int .u64 x) ∧ 0 ≤ x ∧ x ≤ 18446744073709551615 := by
      intro i hi
      obtain ⟨h1, h2⟩ := hx i (by omega)
      obtain ⟨k, e1, _, hw⟩ := DataW.trod_int he h2
      have hb := bounds_u64 hw
      have e2 := congrArg (fun l => l[0]?) e1
      have e3 : V i = .int .u64 k := by simpa using e2
      exact ⟨k, by rw [h1, e3], hb⟩
    obtain ⟨g, hg⟩ := choose_lt key
    refine ⟨some a, n, c, (List.range n).map g, rfl, ⟨⟨by simp [u64s], fun hn => ⟨a, rfl, trivial, ?_, ?_⟩⟩, ⟨hl, hmx⟩, (fun h => by cases h), fun y hy => ?_⟩⟩
    · have := block_lt_ (hg 0 hn).1
      simpa [block_of_add] using this
    · intro j u hu
      simp only [u64s, List.getElem?_map] at hu
      rcases Nat.lt_or_ge j n with hq | hq
      case inr => rw [List.getElem?_eq_none (by simp; omega)] at hu; cases hu
      rw [List.getElem?_range hq] at hu
      simp at hu
      subst hu
      exact (hg j hq).1
    · obtain ⟨j, hj, rfl⟩ := List.mem_map.1 hy
      exact (hg j (List.mem_range.1 hj)).2
end
end Go.Proofs.Ytpbafmdebflbpaa
