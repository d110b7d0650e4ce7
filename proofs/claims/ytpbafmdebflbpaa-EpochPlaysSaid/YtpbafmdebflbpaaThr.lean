/- Scripts of deeds; what is wrong with threads or a script; two answers that are alike. (As in HazF, HazL and HazR: never import both.) -/
import Derived.Test.YtpbafmdebflbpaaHazA
namespace Go.Proofs.Ytpbafmdebflbpaa
open Go.RowKit

abbrev Deed := Int × Int × Int
def deeds (l : List Deed) : List Value := l.flatMap fun d => [.int .i64 d.1, .int .i64 d.2.1, .int .i64 d.2.2]
theorem deeds_length (l : List Deed) : (deeds l).length = l.length * 3 := by
  unfold deeds; induction l with
  | nil => rfl
  | cons a l ih => simp [List.flatMap_cons] at ih ⊢; omega
theorem deeds_at (l : List Deed) (k : Nat) (h : k < l.length) : (deeds l)[k * 3]? = some (.int .i64 l[k].1) ∧ (deeds l)[k * 3 + (0 + 1)]? = some (.int .i64 l[k].2.1) ∧ (deeds l)[k * 3 + (1 + 1)]? = some (.int .i64 l[k].2.2) := by
  unfold deeds
  induction l generalizing k with
  | nil => simp at h
  | cons a l ih =>
    cases k with
    | zero => exact ⟨rfl, rfl, rfl⟩
    | succ k =>
      have h' : k < l.length := by simpa using h
      have := ih k h'
      simp only [List.flatMap_cons]
      rw [show (k + 1) * 3 = k * 3 + 3 from by omega]
      simpa [Nat.add_right_comm _ 3] using this

def FreeingRd (w0 w : World) (v : Value) (codes : List Int) (freed : List (Int × Int)) (waits : List Int) : Prop :=
  ∃ A1 n1 c1 A2 n2 c2 A3 n3 c3, v = .agg #[.slice A1 n1 c1, .slice A2 n2 c2, .slice A3 n3 c3] ∧ Rd w (fun g => w0.heap.size ≤ g) 1 A1 n1 (ints codes) ∧ Rd w (fun g => w0.heap.size ≤ g) 2 A2 n2 (fates freed) ∧ Rd w (fun g => w0.heap.size ≤ g) 1 A3 n3 (ints waits)

set_option maxHeartbeats 400000 in
theorem threadsCheck_any (w : World) (threads : Int) (A : Option Addr) (n c : Nat) :
    Calls Try.prog 23 #[.int .i64 threads, .slice A n c] w fun e w' => e = .returned (.int .i64 (if threads < 1 ∨ 4 < threads then 3 else if 100 < n then 1 else 0)) ∧ w = w' := by
  by_cases h1 : threads < 1
  · rw [if_pos (by omega)]
    go_enter Try.func23, Try.ntmps23
    go_wp2_with fail
    go_ret
    exact ⟨rfl, rfl⟩
  by_cases h2 : 4 < threads
  · rw [if_pos (by omega)]
    go_enter Try.func23, Try.ntmps23
    go_wp2_with fail
    go_ret
    exact ⟨rfl, rfl⟩
  rw [if_neg (by omega)]
  by_cases h3 : 100 < n
  · rw [if_pos h3]
    go_enter Try.func23, Try.ntmps23
    go_wp2_with fail
    go_ret
    exact ⟨rfl, rfl⟩
  · rw [if_neg h3]
    go_enter Try.func23, Try.ntmps23
    go_wp2_with fail
    go_ret
    exact ⟨rfl, rfl⟩

theorem FreeingRd.below {w0 w w' : World} {v : Value} {a : List Int} {b : List (Int × Int)} {c : List Int} (h : FreeingRd w0 w v a b c) (hb : Below w.heap.size w w') : FreeingRd w0 w' v a b c := by
  obtain ⟨A1, n1, c1, A2, n2, c2, A3, n3, c3, rfl, h1, h2, h3⟩ := h
  exact ⟨_, _, _, _, _, _, _, _, _, rfl, h1.below hb, h2.below hb, h3.below hb⟩

theorem freeings_any (w w1 w2 : World) (v v' : Value) (a : List Int) (b : List (Int × Int)) (c : List Int) (ha : a.length ≤ 1000) (hb : b.length ≤ 1000) (hc : c.length ≤ 1000) (h : FreeingRd w1 w v a b c) (h' : FreeingRd w2 w v' a b c) :
    Calls Try.prog 24 #[v, v'] w fun e w' => e = .returned (.bool true) ∧ Below w.heap.size w w' := by
  obtain ⟨A1, n1, c1, A2, n2, c2, A3, n3, c3, rfl, h1, h2, h3⟩ := h
  obtain ⟨A1', n1', c1', A2', n2', c2', A3', n3', c3', rfl, h1', h2', h3'⟩ := h'
  have l1 : a.length = n1 := by simpa using h1.1
  have l2 : b.length = n2 := by have := h2.1; rw [fates_length] at this; omega
  have l3 : c.length = n3 := by simpa using h3.1
  have e1 : a.length = n1' := by simpa using h1'.1
  have e2 : b.length = n2' := by have := h2'.1; rw [fates_length] at this; omega
  have e3 : c.length = n3' := by simpa using h3'.1
  subst l1 l2 l3 e1 e2 e3
  exact freeings_same w _ _ _ _ _ _ _ _ _ _ _ _ _ _ _ _ _ _ _ _ _ a c b (by omega) (by omega) (by omega) h1 h2 h3 h1' h2' h3'

theorem zInt : (Try.prog.info? 3).map (fun i => (i.zero, i.size, i.bytes)) = some (some (.int .i64 0), 1, 8) := by kernel_rfl
theorem madeInts (n : Nat) : (madeCells (Value.cells (.int .i64 0)) (n * 1)).toList = ints (List.replicate n 0) := by
  apply List.ext_getElem
  · simp [madeCells, ints]
  · intro i h1 h2
    simp [madeCells, Value.cells, ints, Nat.mod_one]

theorem ints_app (l : List Int) (x : Int) : ints (l ++ [x]) = ints l ++ [.int .i64 x] := by simp [ints]
theorem freeing_any (w : World) (A1 A2 A3 : Option Addr) (n1 n2 n3 c1 c2 c3 : Nat) : Calls Try.prog 57 #[.slice A1 n1 c1, .slice A2 n2 c2, .slice A3 n3 c3] w fun e w' => e = .returned (.agg #[.slice A1 n1 c1, .slice A2 n2 c2, .slice A3 n3 c3]) ∧ Below w.heap.size w w' := by
  go_enter Try.func57, Try.ntmps57
  go_wp2
  refine bodyPost_ret (v := .agg #[.slice A1 n1 c1, .slice A2 n2 c2, .slice A3 n3 c3]) (by simp [results, Try.results57, go_sem]) rfl ⟨rfl, (by repeat (first | with_reducible exact Below.refl _ _ | with_reducible (refine Below.setCell ?_ (by first | omega | (simp; done) | (simp; omega)) _) | with_reducible (refine Below.alloc ?_ (by first | omega | (simp; done) | (simp; omega)) _) | with_reducible refine Below.drew ?_ | with_reducible refine below_drewN ?_ _))⟩

end Go.Proofs.Ytpbafmdebflbpaa
