/- What a call has of its own: a slice cut, cleared; two cells stored at once. numbers: ref.Has, ref.Ints. graph: what a graph's memory holds; the test of an object; slices.ContainsFunc over objects. -/
import Derived.Test.YtpbafmdebflbpaaGMarkTells0
set_option linter.unusedSimpArgs false
set_option linter.unusedVariables false
namespace Go.Proofs.Ytpbafmdebflbpaa
open Go.RowKit

theorem addr0 (g j : Nat) : (⟨g, 0, none⟩ : Addr).add j = ⟨g, j, none⟩ := by
  unfold Addr.add; split <;> simp_all

theorem ownsRow_cut {w : World} {base e size n c q : Nat} {A : Option Addr} {xs : List Value} (h : w.ownsRow base e size (.slice A n c) n xs) (hq : q ≤ n) : w.ownsRow base e size (.slice A q c) q (xs.take (q * size)) := by
  obtain ⟨h1, h2⟩ := h
  have hm : q * size ≤ n * size := Nat.mul_le_mul_right _ hq
  refine ⟨by rw [List.length_take, h1]; omega, ?_⟩
  rcases h2 with ⟨h0, h00⟩ | ⟨g', cap', cur, hv, hg, hh, hn, hcap, hsz, htake⟩
  · injection h0 with e1 e2 e3
    subst e1 e2 e3
    obtain rfl : q = 0 := by omega
    exact .inl ⟨rfl, rfl⟩
  · injection hv with e1 e2 e3
    subst e1 e3
    refine .inr ⟨g', c, cur, rfl, hg, hh, by omega, hcap, hsz, ?_⟩
    rw [← htake, List.take_take, Nat.min_eq_left hm]

section
variable {F : Nat → Prop} {W w : World} {items : List Item}
theorem Sep.cutRow (h : Sep F W w items) (k : Nat) {e size n c q : Nat} {A : Option Addr} {xs : List Value} (hk : items[k]? = some (rowI e size A n c xs)) (hq : q ≤ n) :
    Sep F W w (items.set k (rowI e size A q c (xs.take (q * size)))) :=
  h.step k hk (Chg.refl _ w) _ (ownsRow_cut (h.get k hk) hq) (fun g hg => .inl (by cases A with
    | none => simp [rowI, Value.ownBlock] at hg
    | some a => simpa [rowI, Value.ownBlock] using hg))
theorem sep_setCells {F : Nat → Prop} {W : World} (k : Nat) {e size n c g : Nat} : ∀ (vs : List Value) (o : Nat) (xs : List Value) (w : World) (items : List Item), Sep F W w items → items[k]? = some (rowI e size (some ⟨g, 0, none⟩) n c xs) →
    ∃ xs', Sep F W (w.setCells g o vs) (items.set k (rowI e size (some ⟨g, 0, none⟩) n c xs')) ∧ xs'.take o = xs.take o
  | [], o, xs, w, items, h, hk => ⟨xs, by
      have hkl := (List.getElem?_eq_some_iff.1 hk)
      obtain ⟨hkl, he⟩ := hkl
      rw [show items.set k (rowI e size (some ⟨g, 0, none⟩) n c xs) = items by rw [← he]; exact List.set_getElem_self hkl]
      exact h, rfl⟩
  | v :: r, o, xs, w, items, h, hk => by
    have h1 := h.store k hk o v
    have hkl := (List.getElem?_eq_some_iff.1 hk).1
    obtain ⟨xs', h2, h3⟩ := sep_setCells k (e := e) (size := size) (n := n) (c := c) (g := g) r (o + 1) (xs.set o v) _ _ h1 (by simp [hkl])
    refine ⟨xs', by rw [List.set_set] at h2; exact h2, ?_⟩
    have h4 := congrArg (List.take o) h3
    rw [List.take_take, List.take_take, Nat.min_eq_left (by omega), List.take_set_of_le (by omega)] at h4
    exact h4
/-- The tail is cleared, and the slice cut ahead of it. -/
theorem Sep.clearCut (h : Sep F W w items) (k : Nat) {e size n c g q : Nat} {xs : List Value} (hk : items[k]? = some (rowI e size (some ⟨g, 0, none⟩) n c xs)) (hq : q ≤ n) (vs : List Value) :
    Sep F W (w.setCells g (q * size) vs) (items.set k (rowI e size (some ⟨g, 0, none⟩) q c (xs.take (q * size)))) := by
  obtain ⟨xs', h1, h2⟩ := sep_setCells k vs (q * size) xs w items h hk
  have hkl := (List.getElem?_eq_some_iff.1 hk).1
  have h3 := h1.cutRow k (q := q) (by simp [hkl]; rfl) hq
  rw [h2] at h3
  simpa using h3
/-- A store of a struct of two cells into a slice of the call's own. -/
theorem Sep.store2 (h : Sep F W w items) (k : Nat) {e size n c g : Nat} {xs : List Value} (hk : items[k]? = some (rowI e size (some ⟨g, 0, none⟩) n c xs)) (j : Nat) (u v : Value) :
    Sep F W ((w.setCell ⟨g, j, none⟩ u).setCell ⟨g, j + 1, none⟩ v) (items.set k (rowI e size (some ⟨g, 0, none⟩) n c ((xs.set j u).set (j + 1) v))) := by
  have hkl := (List.getElem?_eq_some_iff.1 hk).1
  have h1 := (h.store k hk j u).store k (xs := xs.set j u) (by simp [hkl]; rfl) (j + 1) v
  simpa using h1
end

/-- 'clear(s)' of a slice of whatever elements. -/
theorem run_clear_all {P : Program} (w : World) (t e ty : TypeId) (z : Value) (ht : P.underlying t = some (.slice e)) (hv : ∀ w, (zeroValue e).run P w = .ok z w) (b o n c : Nat) (hn : 0 < n)
    (hc : ∀ j, j < n * z.cells.size → (w.cell? ⟨b, o + j, none⟩).isSome = true) (hf : ∀ j, j < n * z.cells.size → w.frozen? ⟨b, o + j, none⟩ = false) (h1 : ∀ v ∈ (Builtin.zeroCells z.cells n).toList, v.oneCell' = true) :
    (Builtin.clear_ #[t] ty #[.slice (some ⟨b, o, none⟩) n c]).run P w = .ok (.tuple #[]) (w.setCells b o (Builtin.zeroCells z.cells n).toList) := by
  have hl : (Builtin.zeroCells z.cells n).toList.length = n * z.cells.size := by simp [Builtin.zeroCells]
  have hst := run_storeCells_cells (P := P) b o (Builtin.zeroCells z.cells n).toList 0 w (by rw [hl]; simpa using hc) (by rw [hl]; simpa using hf) h1
  simp only [Nat.add_zero] at hst
  obtain ⟨m, rfl⟩ : ∃ m, n = m + 1 := ⟨n - 1, by omega⟩
  simp [Builtin.clear_, run_underlying ht, hv, hst]
end Go.Proofs.Ytpbafmdebflbpaa

namespace Go.Proofs.Ytpbafmdebflbpaa
open Go.RowKit

theorem sInt : SliceT Try.prog 40 3 1 8 := SliceT.mk_ Try.underlying40 (z := .int .i64 0) (by kernel_rfl) rfl (by omega)

/-- A list of numbers as cells. -/
abbrev ints (l : List Int) : List Value := l.map (Value.int .i64)
theorem ret_bool {a b : Bool} (h : a = b) : Ending.returned (.bool a) = .returned (.bool b) := by rw [h]
theorem ret_int {k : IntKind} {a b : Int} (h : a = b) : Ending.returned (.int k a) = .returned (.int k b) := by rw [h]
def RetB (b : Bool) (w : World) : Ending → World → Prop := fun e w' => e = .returned (.bool b) ∧ w = w'

set_option maxHeartbeats 400000 in
theorem has_any (w : World) (D : Nat → Prop) (A : Option Addr) (n c : Nat) (xs : List Int) (x : Int) (hn : n ≤ 9223372036854775807)
    (h : Rd w D 1 A n (ints xs)) :
    Calls Try.prog 56 #[.slice A n c, .int .i64 x] w (RetB (decide (x ∈ xs)) w) := by
  have hl : xs.length = n := by have := h.1; simpa using this
  have HL := hide hl
  clear hl
  go_enter Try.func56, Try.ntmps56
  go_wp2
  go_loop [6, 9] (fun _ i => ∃ k : Nat, k ≤ n ∧ i = .int .i64 k ∧ Hid (x ∉ xs.take k)) (fun _ i => n - (intOf i).toNat)
  case atStart => exact ⟨0, by omega, rfl, by simp [Hid]⟩
  case round =>
    obtain ⟨k, hk, rfl, hnot⟩ := hrel
    by_cases hlt : k < n
    · obtain ⟨ad, rfl, hb, _, hc⟩ := h.at_ hlt
      have hkl : k < xs.length := by rw [HL.out]; exact hlt
      have hcell := hc (.int .i64 xs[k]) (by simp [List.getElem?_eq_getElem hkl])
      clear hc
      by_cases hx : x = xs[k]
      · have hx2 : (x == xs[k]) = true := by simp [hx]
        have HX := hide hx
        clear hx
        go_wp2
        go_ret
        exact ⟨ret_bool (show true = decide (x ∈ xs) from by rw [HX.out]; simp), rfl⟩
      · have hx2 : (x == xs[k]) = false := by simp [hx]
        have HX := hide hx
        clear hx
        go_wp2
        go_round
        case rel => exact ⟨k + 1, by omega, by go_num, by
          have h1 := hnot.out
          have h2 := HX.out
          show x ∉ _
          rw [List.take_succ_eq_append_getElem hkl]; simp only [List.mem_append, List.mem_singleton, h1, h2, or_self, not_false_eq_true]⟩
        case measure => simp [intOf]; omega
    · go_wp2
      go_ret
      have h1 := hnot.out
      rw [List.take_of_length_le (by rw [HL.out]; omega)] at h1
      exact ⟨ret_bool (show false = decide (x ∈ xs) from by simpa using h1), rfl⟩

set_option maxHeartbeats 400000 in
theorem ints_same (w : World) (D D' : Nat → Prop) (A A' : Option Addr) (n c c' : Nat) (xs : List Int) (hn : n ≤ 9223372036854775807)
    (h : Rd w D 1 A n (ints xs)) (h' : Rd w D' 1 A' n (ints xs)) :
    Calls Try.prog 41 #[.slice A n c, .slice A' n c'] w fun e w' => e = .returned (.bool true) ∧ Below w.heap.size w w' := by
  have hl : xs.length = n := by have := h.1; simpa using this
  have HL := hide hl
  clear hl
  go_enter Try.func41, Try.ntmps41
  go_wp2
  go_loopw [5] (fun i wr => ∃ k : Nat, k ≤ n ∧ i = .int .i64 k ∧ Below w.heap.size w wr) (fun i _ => n - (intOf i).toNat)
  case atStart => exact ⟨0, by omega, rfl, Below.refl _ _⟩
  case round =>
    obtain ⟨k, hk, rfl, hb⟩ := hrel
    by_cases hlt : k < n
    · obtain ⟨ad, rfl, _, _, hc⟩ := (h.below hb).at_ hlt
      obtain ⟨ad', rfl, _, _, hc'⟩ := (h'.below hb).at_ hlt
      have hkl : k < xs.length := by rw [HL.out]; exact hlt
      have hcell := hc (.int .i64 xs[k]) (by simp [List.getElem?_eq_getElem hkl])
      have hcell' := hc' (.int .i64 xs[k]) (by simp [List.getElem?_eq_getElem hkl])
      clear hc hc'
      go_wp2
      go_quiet (fail)
      go_wp2
      go_roundw
      case rel => exact ⟨k + 1, by omega, by go_num, below_drewN hb _⟩
      case measure => simp [intOf]; omega
    · go_wp2
      go_ret
      exact ⟨rfl, hb⟩

end Go.Proofs.Ytpbafmdebflbpaa

namespace Go.Proofs.Ytpbafmdebflbpaa
open Go.RowKit

/-- A value: is it a reference, and its number. -/
abbrev Val := Bool × Int
def vals (l : List Val) : List Value := l.flatMap fun v => [.bool v.1, .int .i64 v.2]
theorem vals_length (l : List Val) : (vals l).length = l.length * 2 := by
  unfold vals; induction l with
  | nil => rfl
  | cons a l ih => simp [List.flatMap_cons] at ih ⊢; omega
theorem vals_at (l : List Val) (k : Nat) (h : k < l.length) : (vals l)[k * 2]? = some (.bool l[k].1) ∧ (vals l)[k * 2 + (0 + 1)]? = some (.int .i64 l[k].2) := by
  unfold vals
  induction l generalizing k with
  | nil => simp at h
  | cons a l ih =>
    cases k with
    | zero => exact ⟨rfl, rfl⟩
    | succ k =>
      have h' : k < l.length := by simpa using h
      have := ih k h'
      simp only [List.flatMap_cons]
      rw [show (k + 1) * 2 = k * 2 + 2 from by omega]
      simpa [Nat.add_right_comm _ 2] using this
/-- An object: where its fields lie, and what they are. -/
structure Ob where
  A : Option Addr
  n : Nat
  c : Nat
  fields : List Val
def Ob.val (o : Ob) : Value := .slice o.A o.n o.c
/-- Objects that read, in blocks of a set D. -/
structure ObsRd (w : World) (D : Nat → Prop) (A : Option Addr) (n : Nat) (obs : List Ob) : Prop where
  row : Rd w D 1 A n (obs.map Ob.val)
  each : ∀ o ∈ obs, Rd w D 2 o.A o.n (vals o.fields)
theorem ObsRd.len {w : World} {D : Nat → Prop} {A : Option Addr} {n : Nat} {obs : List Ob} (h : ObsRd w D A n obs) : obs.length = n := by
  have := h.row.1; simpa using this
theorem ObsRd.flen {w : World} {D : Nat → Prop} {A : Option Addr} {n : Nat} {obs : List Ob} (h : ObsRd w D A n obs) {o : Ob} (ho : o ∈ obs) : o.fields.length = o.n := by
  have := (h.each o ho).1; rw [vals_length] at this; omega
theorem ObsRd.keep {w w' : World} {D : Nat → Prop} {A : Option Addr} {n : Nat} {obs : List Ob} (h : ObsRd w D A n obs) (hs : w.heap.size ≤ w'.heap.size) (hk : ∀ k, k < w.heap.size → D k → w'.heap[k]? = w.heap[k]?) : ObsRd w' D A n obs :=
  ⟨h.row.keep hs hk, fun o ho => (h.each o ho).keep hs hk⟩
theorem ObsRd.below {w w' : World} {D : Nat → Prop} {A : Option Addr} {n : Nat} {obs : List Ob} (h : ObsRd w D A n obs) (hb : Below w.heap.size w w') : ObsRd w' D A n obs := h.keep hb.size fun k hk _ => hb.block k hk
theorem ObsRd.chg {w w' : World} {D S : Nat → Prop} {A : Option Addr} {n : Nat} {obs : List Ob} (h : ObsRd w D A n obs) (hc : Chg S w w') (hM : ∀ g, S g → ¬ D g) : ObsRd w' D A n obs := h.keep hc.size fun k hk hd => hc.block k hk (fun hm => hM k hm hd)
theorem ObsRd.more {w : World} {D D' : Nat → Prop} {A : Option Addr} {n : Nat} {obs : List Ob} (h : ObsRd w D A n obs) (hD : ∀ k, k < w.heap.size → D k → D' k) : ObsRd w D' A n obs :=
  ⟨h.row.more hD, fun o ho => (h.each o ho).more hD⟩

def large (o : Ob) : Bool := decide (4 < o.n)

set_option maxHeartbeats 400000 in
theorem large_any (w : World) (o : Ob) : Calls Try.prog 99 #[.agg #[o.val]] w fun e w' => e = .returned (.bool (large o)) ∧ Below w.heap.size w w' := by
  unfold large Ob.val
  go_enter Try.func99, Try.ntmps99
  go_wp2_with fail
  go_ret
  exact ⟨ret_bool (by rw [decide_eq_decide]; omega), (by repeat (first | with_reducible exact Below.refl _ _ | with_reducible (refine Below.setCell ?_ (by first | omega | (simp; done) | (simp; omega)) _) | with_reducible (refine Below.alloc ?_ (by first | omega | (simp; done) | (simp; omega)) _) | with_reducible refine Below.drew ?_ | with_reducible refine below_drewN ?_ _))⟩

set_option maxHeartbeats 400000 in
theorem index_large (w : World) (A : Option Addr) (n c : Nat) (obs : List Ob) (hn : n ≤ 1000) (h : ObsRd w (fun _ => True) A n obs) :
    Calls Try.prog 120 #[.slice A n c, .func (.func 99) #[] #[]] w fun e w' => (∃ r : Int, e = .returned (.int .i64 r) ∧ (0 ≤ r ↔ ∃ x ∈ obs, large x = true)) ∧ Below w.heap.size w w' := by
  have HL := hide h.len
  go_enter Try.func120, Try.ntmps120
  go_wp2_with fail
  go_loopw [5, 8] (fun _ i wr => ∃ k : Nat, k ≤ n ∧ i = .int .i64 k ∧ Hid (∀ t ∈ obs.take k, large t = false) ∧ Below w.heap.size w wr) (fun _ i _ => n - (intOf i).toNat)
  case atStart => exact ⟨0, by omega, rfl, by simp [Hid], Below.refl _ _⟩
  case round =>
    obtain ⟨k, hk, rfl, hnot, hB⟩ := hrel
    by_cases hlt : k < n
    · obtain ⟨ad, rfl, _, _, hc⟩ := (h.row.below hB).at_ hlt
      have hkl : k < obs.length := by rw [HL.out]; exact hlt
      have hcell := hc obs[k].val (by simp [List.getElem?_eq_getElem hkl])
      unfold Ob.val at hcell
      clear hc
      go_wp2_with fail
      refine (large_any _ obs[k]).mono ?_
      rintro e w1 ⟨rfl, hB1⟩
      have hz := hB.size
      cases hq : large obs[k] with
      | true =>
        have HQ := hide hq
        clear hq
        go_wp2_with fail
        go_ret
        exact ⟨⟨k, rfl, ⟨fun _ => ⟨obs[k], List.getElem_mem hkl, HQ.out⟩, fun _ => by omega⟩⟩, hB.trans (hB1.mono hz)⟩
      | false =>
        have HQ := hide hq
        clear hq
        go_wp2_with fail
        go_roundw
        case rel => exact ⟨k + 1, by omega, by go_num, by
          have h1 := hnot.out
          have h2 := HQ.out
          show ∀ t ∈ obs.take (k + 1), large t = false
          rw [List.take_succ_eq_append_getElem hkl]
          intro t ht
          rcases List.mem_append.1 ht with h3 | h3
          · exact h1 t h3
          · simp only [List.mem_singleton] at h3; subst h3; exact h2, hB.trans (hB1.mono hz)⟩
        case measure => simp [intOf]; omega
    · go_wp2_with fail
      go_ret
      have h1 := hnot.out
      rw [List.take_of_length_le (by rw [HL.out]; omega)] at h1
      exact ⟨⟨-1, rfl, ⟨fun h => by omega, fun ⟨t, ht, htx⟩ => by rw [h1 t ht] at htx; cases htx⟩⟩, hB⟩

set_option maxHeartbeats 400000 in
theorem contains_large (w : World) (A : Option Addr) (n c : Nat) (obs : List Ob) (hn : n ≤ 1000) (h : ObsRd w (fun _ => True) A n obs) :
    Calls Try.prog 100 #[.slice A n c, .func (.func 99) #[] #[]] w fun e w' => e = .returned (.bool (obs.any large)) ∧ Below w.heap.size w w' := by
  go_enter Try.func100, Try.ntmps100
  go_wp2_with fail
  refine (index_large w A n c obs hn h).mono ?_
  rintro e w1 ⟨⟨r, rfl, hr⟩, hB⟩
  have hb : obs.any large = decide (0 ≤ r) := by
    rw [Bool.eq_iff_iff]; simp only [List.any_eq_true, decide_eq_true_eq]; exact hr.symm
  have HB := hide hb
  clear hb hr
  go_wp2_with fail
  go_ret
  exact ⟨ret_bool HB.out.symm, hB⟩
end Go.Proofs.Ytpbafmdebflbpaa
