/- What a call has of its own: a slice cut, cleared; two cells stored at once. -/
import Derived.Test.YtpbafmdebflbpaaSep
namespace Go.Proofs.Ytpbafmdebflbpaa
open Go.RowKit

theorem addr0 (g j : Nat) : (⟨g, 0, none⟩ : Addr).add j = ⟨g, j, none⟩ := by
  unfold Addr.add; split <;> simp_all

theorem ownsRow_cut {w : World} {base e size n c q : Nat} {A : Option Addr} {xs : List Value} (h : w.ownsRow base e size (.slice A n c) n xs) (hq : q ≤ n) : w.ownsRow base e size (.slice A q c) q (xs.take (q * size)) := by
  obtain ⟨h1, h2⟩ := h
  have hm : q * size ≤ n * size := Nat.mul_le_mul_right _ hq
  refine ⟨by rw [List.length_take, h1]; omega, ?_⟩
  rcases h2 with ⟨h0, h00⟩ | ⟨g', cap', cur, hv, hg, hh, hn, hcap, hsz, htake⟩
  · injection h0 with e1 e2 e3
    subst e1 e2 e3
    obtain rfl : q = 0 := by omega
    exact .inl ⟨rfl, rfl⟩
  · injection hv with e1 e2 e3
    subst e1 e3
    refine .inr ⟨g', c, cur, rfl, hg, hh, by omega, hcap, hsz, ?_⟩
    rw [← htake, List.take_take, Nat.min_eq_left hm]

section
variable {F : Nat → Prop} {W w : World} {items : List Item}
theorem Sep.cutRow (h : Sep F W w items) (k : Nat) {e size n c q : Nat} {A : Option Addr} {xs : List Value} (hk : items[k]? = some (rowI e size A n c xs)) (hq : q ≤ n) :
    Sep F W w (items.set k (rowI e size A q c (xs.take (q * size)))) :=
  h.step k hk (Chg.refl _ w) _ (ownsRow_cut (h.get k hk) hq) (fun g hg => .inl (by cases A with
    | none => simp [rowI, Value.ownBlock] at hg
    | some a => simpa [rowI, Value.ownBlock] using hg))
theorem sep_setCells {F : Nat → Prop} {W : World} (k : Nat) {e size n c g : Nat} : ∀ (vs : List Value) (o : Nat) (xs : List Value) (w : World) (items : List Item), Sep F W w items → items[k]? = some (rowI e size (some ⟨g, 0, none⟩) n c xs) →
    ∃ xs', Sep F W (w.setCells g o vs) (items.set k (rowI e size (some ⟨g, 0, none⟩) n c xs')) ∧ xs'.take o = xs.take o
  | [], o, xs, w, items, h, hk => ⟨xs, by
      have hkl := (List.getElem?_eq_some_iff.1 hk)
      obtain ⟨hkl, he⟩ := hkl
      rw [show items.set k (rowI e size (some ⟨g, 0, none⟩) n c xs) = items by rw [← he]; exact List.set_getElem_self hkl]
      exact h, rfl⟩
  | v :: r, o, xs, w, items, h, hk => by
    have h1 := h.store k hk o v
    have hkl := (List.getElem?_eq_some_iff.1 hk).1
    obtain ⟨xs', h2, h3⟩ := sep_setCells k (e := e) (size := size) (n := n) (c := c) (g := g) r (o + 1) (xs.set o v) _ _ h1 (by simp [hkl])
    refine ⟨xs', by rw [List.set_set] at h2; exact h2, ?_⟩
    have h4 := congrArg (List.take o) h3
    rw [List.take_take, List.take_take, Nat.min_eq_left (by omega), List.take_set_of_le (by omega)] at h4
    exact h4
/-- The tail is cleared, and the slice cut ahead of it. -/
theorem Sep.clearCut (h : Sep F W w items) (k : Nat) {e size n c g q : Nat} {xs : List Value} (hk : items[k]? = some (rowI e size (some ⟨g, 0, none⟩) n c xs)) (hq : q ≤ n) (vs : List Value) :
    Sep F W (w.setCells g (q * size) vs) (items.set k (rowI e size (some ⟨g, 0, none⟩) q c (xs.take (q * size)))) := by
  obtain ⟨xs', h1, h2⟩ := sep_setCells k vs (q * size) xs w items h hk
  have hkl := (List.getElem?_eq_some_iff.1 hk).1
  have h3 := h1.cutRow k (q := q) (by simp [hkl]; rfl) hq
  rw [h2] at h3
  simpa using h3
/-- A store of a struct of two cells into a slice of the call's own. -/
theorem Sep.store2 (h : Sep F W w items) (k : Nat) {e size n c g : Nat} {xs : List Value} (hk : items[k]? = some (rowI e size (some ⟨g, 0, none⟩) n c xs)) (j : Nat) (u v : Value) :
    Sep F W ((w.setCell ⟨g, j, none⟩ u).setCell ⟨g, j + 1, none⟩ v) (items.set k (rowI e size (some ⟨g, 0, none⟩) n c ((xs.set j u).set (j + 1) v))) := by
  have hkl := (List.getElem?_eq_some_iff.1 hk).1
  have h1 := (h.store k hk j u).store k (xs := xs.set j u) (by simp [hkl]; rfl) (j + 1) v
  simpa using h1
end

/-- 'clear(s)' of a slice of whatever elements. -/
theorem run_clear_all {P : Program} (w : World) (t e ty : TypeId) (z : Value) (ht : P.underlying t = some (.slice e)) (hv : ∀ w, (zeroValue e).run P w = .ok z w) (b o n c : Nat) (hn : 0 < n)
    (hc : ∀ j, j < n * z.cells.size → (w.cell? ⟨b, o + j, none⟩).isSome = true) (hf : ∀ j, j < n * z.cells.size → w.frozen? ⟨b, o + j, none⟩ = false) (h1 : ∀ v ∈ (Builtin.zeroCells z.cells n).toList, v.oneCell' = true) :
    (Builtin.clear_ #[t] ty #[.slice (some ⟨b, o, none⟩) n c]).run P w = .ok (.tuple #[]) (w.setCells b o (Builtin.zeroCells z.cells n).toList) := by
  have hl : (Builtin.zeroCells z.cells n).toList.length = n * z.cells.size := by simp [Builtin.zeroCells]
  have hst := run_storeCells_cells (P := P) b o (Builtin.zeroCells z.cells n).toList 0 w (by rw [hl]; simpa using hc) (by rw [hl]; simpa using hf) h1
  simp only [Nat.add_zero] at hst
  obtain ⟨m, rfl⟩ : ∃ m, n = m + 1 := ⟨n - 1, by omega⟩
  simp [Builtin.clear_, run_underlying ht, hv, hst]
end Go.Proofs.Ytpbafmdebflbpaa
