/- graph: a graph that a call hands back. -/
import Derived.Test.YtpbafmdebflbpaaGrD
namespace Go.Proofs.Ytpbafmdebflbpaa
open Go.RowKit

structure GraphRd (w : World) (D : Nat → Prop) (v : Value) (fss : List (List Val)) (roots : List Val) : Prop where
  ex : ∃ AO nO cO AR nR cR obs, v = .agg #[.slice AO nO cO, .slice AR nR cR] ∧ ObsRd w D AO nO obs ∧ obs.map Ob.fields = fss ∧ Rd w D 2 AR nR (vals roots)
theorem GraphRd.below {w w' : World} {D : Nat → Prop} {v : Value} {fss : List (List Val)} {roots : List Val} (h : GraphRd w D v fss roots) (hb : Below w.heap.size w w') : GraphRd w' D v fss roots := by
  obtain ⟨AO, nO, cO, AR, nR, cR, obs, h1, h2, h3, h4⟩ := h.ex
  exact ⟨AO, nO, cO, AR, nR, cR, obs, h1, h2.below hb, h3, h4.below hb⟩
theorem GraphRd.more {w : World} {D D' : Nat → Prop} {v : Value} {fss : List (List Val)} {roots : List Val} (h : GraphRd w D v fss roots) (hD : ∀ k, k < w.heap.size → D k → D' k) : GraphRd w D' v fss roots := by
  obtain ⟨AO, nO, cO, AR, nR, cR, obs, h1, h2, h3, h4⟩ := h.ex
  exact ⟨AO, nO, cO, AR, nR, cR, obs, h1, h2.more hD, h3, h4.more hD⟩
theorem GraphRd.nil (w : World) (D : Nat → Prop) : GraphRd w D (.agg #[.slice none 0 0, .slice none 0 0]) [] [] := ⟨none, 0, 0, none, 0, 0, [], rfl, ⟨Rd.nil, by simp⟩, rfl, Rd.nil⟩
theorem sObj : SliceT Try.prog 49 110 1 24 := SliceT.mk_ Try.underlying49 (z := .agg #[.slice none 0 0]) (by kernel_rfl) rfl (by omega)
/-- An object's fields as an item. -/
def obI (o : Ob) : Item := rowI 32 2 o.A o.n o.c (vals o.fields)
theorem obs_read {W w : World} {items : List Item} {AO : Option Addr} {n c : Nat} {obs : List Ob} (h : Sep No W w items) (hs : ∀ o ∈ obs, obI o ∈ items) (k : Nat) (hk : items[k]? = some (rowI 110 1 AO n c (obs.map Ob.val))) :
    ObsRd w (fun g => W.heap.size ≤ g) AO n obs :=
  ⟨h.rd k hk, fun o ho => by
    obtain ⟨j, hj⟩ := List.mem_iff_getElem?.1 (hs o ho)
    exact h.rd j hj⟩
end Go.Proofs.Ytpbafmdebflbpaa
