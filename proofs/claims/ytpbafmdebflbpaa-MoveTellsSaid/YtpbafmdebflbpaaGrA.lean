/- graph: what a graph's memory holds; the test of an object; slices.ContainsFunc over objects. -/
import Derived.Test.YtpbafmdebflbpaaSep
import Derived.Test.YtpbafmdebflbpaaInt
namespace Go.Proofs.Ytpbafmdebflbpaa
open Go.RowKit

/-- A value: is it a reference, and its number. -/
abbrev Val := Bool × Int
def vals (l : List Val) : List Value := l.flatMap fun v => [.bool v.1, .int .i64 v.2]
theorem vals_length (l : List Val) : (vals l).length = l.length * 2 := by
  unfold vals; induction l with
  | nil => rfl
  | cons a l ih => simp [List.flatMap_cons] at ih ⊢; omega
theorem vals_at (l : List Val) (k : Nat) (h : k < l.length) : (vals l)[k * 2]? = some (.bool l[k].1) ∧ (vals l)[k * 2 + (0 + 1)]? = some (.int .i64 l[k].2) := by
  unfold vals
  induction l generalizing k with
  | nil => simp at h
  | cons a l ih =>
    cases k with
    | zero => exact ⟨rfl, rfl⟩
    | succ k =>
      have h' : k < l.length := by simpa using h
      have := ih k h'
      simp only [List.flatMap_cons]
      rw [show (k + 1) * 2 = k * 2 + 2 from by omega]
      simpa [Nat.add_right_comm _ 2] using this
/-- An object: where its fields lie, and what they are. -/
structure Ob where
  A : Option Addr
  n : Nat
  c : Nat
  fields : List Val
def Ob.val (o : Ob) : Value := .slice o.A o.n o.c
/-- Objects that read, in blocks of a set D. -/
structure ObsRd (w : World) (D : Nat → Prop) (A : Option Addr) (n : Nat) (obs : List Ob) : Prop where
  row : Rd w D 1 A n (obs.map Ob.val)
  each : ∀ o ∈ obs, Rd w D 2 o.A o.n (vals o.fields)
theorem ObsRd.len {w : World} {D : Nat → Prop} {A : Option Addr} {n : Nat} {obs : List Ob} (h : ObsRd w D A n obs) : obs.length = n := by
  have := h.row.1; simpa using this
theorem ObsRd.flen {w : World} {D : Nat → Prop} {A : Option Addr} {n : Nat} {obs : List Ob} (h : ObsRd w D A n obs) {o : Ob} (ho : o ∈ obs) : o.fields.length = o.n := by
  have := (h.each o ho).1; rw [vals_length] at this; omega
theorem ObsRd.keep {w w' : World} {D : Nat → Prop} {A : Option Addr} {n : Nat} {obs : List Ob} (h : ObsRd w D A n obs) (hs : w.heap.size ≤ w'.heap.size) (hk : ∀ k, k < w.heap.size → D k → w'.heap[k]? = w.heap[k]?) : ObsRd w' D A n obs :=
  ⟨h.row.keep hs hk, fun o ho => (h.each o ho).keep hs hk⟩
theorem ObsRd.below {w w' : World} {D : Nat → Prop} {A : Option Addr} {n : Nat} {obs : List Ob} (h : ObsRd w D A n obs) (hb : Below w.heap.size w w') : ObsRd w' D A n obs := h.keep hb.size fun k hk _ => hb.block k hk
theorem ObsRd.chg {w w' : World} {D S : Nat → Prop} {A : Option Addr} {n : Nat} {obs : List Ob} (h : ObsRd w D A n obs) (hc : Chg S w w') (hM : ∀ g, S g → ¬ D g) : ObsRd w' D A n obs := h.keep hc.size fun k hk hd => hc.block k hk (fun hm => hM k hm hd)
theorem ObsRd.more {w : World} {D D' : Nat → Prop} {A : Option Addr} {n : Nat} {obs : List Ob} (h : ObsRd w D A n obs) (hD : ∀ k, k < w.heap.size → D k → D' k) : ObsRd w D' A n obs :=
  ⟨h.row.more hD, fun o ho => (h.each o ho).more hD⟩

def large (o : Ob) : Bool := decide (4 < o.n)

set_option maxHeartbeats 400000 in
theorem large_any (w : World) (o : Ob) : Calls Try.prog 99 #[.agg #[o.val]] w fun e w' => e = .returned (.bool (large o)) ∧ Below w.heap.size w w' := by
  unfold large Ob.val
  go_enter Try.func99, Try.ntmps99
  go_wp2_with fail
  go_ret
  exact ⟨ret_bool (by rw [decide_eq_decide]; omega), (by repeat (first | with_reducible exact Below.refl _ _ | with_reducible (refine Below.setCell ?_ (by first | omega | (simp; done) | (simp; omega)) _) | with_reducible (refine Below.alloc ?_ (by first | omega | (simp; done) | (simp; omega)) _) | with_reducible refine Below.drew ?_ | with_reducible refine below_drewN ?_ _))⟩

set_option maxHeartbeats 400000 in
theorem index_large (w : World) (A : Option Addr) (n c : Nat) (obs : List Ob) (hn : n ≤ 1000) (h : ObsRd w (fun _ => True) A n obs) :
    Calls Try.prog 120 #[.slice A n c, .func (.func 99) #[] #[]] w fun e w' => (∃ r : Int, e = .returned (.int .i64 r) ∧ (0 ≤ r ↔ ∃ x ∈ obs, large x = true)) ∧ Below w.heap.size w w' := by
  have HL := hide h.len
  go_enter Try.func120, Try.ntmps120
  go_wp2_with fail
  go_loopw [5, 8] (fun _ i wr => ∃ k : Nat, k ≤ n ∧ i = .int .i64 k ∧ Hid (∀ t ∈ obs.take k, large t = false) ∧ Below w.heap.size w wr) (fun _ i _ => n - (intOf i).toNat)
  case atStart => exact ⟨0, by omega, rfl, by simp [Hid], Below.refl _ _⟩
  case round =>
    obtain ⟨k, hk, rfl, hnot, hB⟩ := hrel
    by_cases hlt : k < n
    · obtain ⟨ad, rfl, _, _, hc⟩ := (h.row.below hB).at_ hlt
      have hkl : k < obs.length := by rw [HL.out]; exact hlt
      have hcell := hc obs[k].val (by simp [List.getElem?_eq_getElem hkl])
      unfold Ob.val at hcell
      clear hc
      go_wp2_with fail
      refine (large_any _ obs[k]).mono ?_
      rintro e w1 ⟨rfl, hB1⟩
      have hz := hB.size
      cases hq : large obs[k] with
      | true =>
        have HQ := hide hq
        clear hq
        go_wp2_with fail
        go_ret
        exact ⟨⟨k, rfl, ⟨fun _ => ⟨obs[k], List.getElem_mem hkl, HQ.out⟩, fun _ => by omega⟩⟩, hB.trans (hB1.mono hz)⟩
      | false =>
        have HQ := hide hq
        clear hq
        go_wp2_with fail
        go_roundw
        case rel => exact ⟨k + 1, by omega, by go_num, by
          have h1 := hnot.out
          have h2 := HQ.out
          show ∀ t ∈ obs.take (k + 1), large t = false
          rw [List.take_succ_eq_append_getElem hkl]
          intro t ht
          rcases List.mem_append.1 ht with h3 | h3
          · exact h1 t h3
          · simp only [List.mem_singleton] at h3; subst h3; exact h2, hB.trans (hB1.mono hz)⟩
        case measure => simp [intOf]; omega
    · go_wp2_with fail
      go_ret
      have h1 := hnot.out
      rw [List.take_of_length_le (by rw [HL.out]; omega)] at h1
      exact ⟨⟨-1, rfl, ⟨fun h => by omega, fun ⟨t, ht, htx⟩ => by rw [h1 t ht] at htx; cases htx⟩⟩, hB⟩

set_option maxHeartbeats 400000 in
theorem contains_large (w : World) (A : Option Addr) (n c : Nat) (obs : List Ob) (hn : n ≤ 1000) (h : ObsRd w (fun _ => True) A n obs) :
    Calls Try.prog 100 #[.slice A n c, .func (.func 99) #[] #[]] w fun e w' => e = .returned (.bool (obs.any large)) ∧ Below w.heap.size w w' := by
  go_enter Try.func100, Try.ntmps100
  go_wp2_with fail
  refine (index_large w A n c obs hn h).mono ?_
  rintro e w1 ⟨⟨r, rfl, hr⟩, hB⟩
  have hb : obs.any large = decide (0 ≤ r) := by
    rw [Bool.eq_iff_iff]; simp only [List.any_eq_true, decide_eq_true_eq]; exact hr.symm
  have HB := hide hb
  clear hb hr
  go_wp2_with fail
  go_ret
  exact ⟨ret_bool HB.out.symm, hB⟩
end Go.Proofs.Ytpbafmdebflbpaa
