/- hazard: does. -/
import Derived.Test.YtpbafmdebflbpaaHazC
namespace Go.Proofs.Ytpbafmdebflbpaa
open Go.RowKit

/-- What the memory stands for. -/
structure HM where
  gone : List Bool
  freed : List (Int × Int)
  ths : List (Int × List Int)
def Hz.abs (s : Hz) : HM := { gone := s.gone, freed := s.freed, ths := s.ths.map fun t => (t.gd, t.ws) }

def deedV (k who it : Int) : Value := .agg #[.int .i64 k, .int .i64 who, .int .i64 it]
theorem unchanged {w w' : World} {s : Hz} (hs : s.item.P w) (hb : Below w.heap.size w w') : Sep s.item.fp w w' [s.item] := (Sep.start hs).below hb

set_option maxHeartbeats 800000 in
theorem does_kind (w : World) (s : Hz) (k who it by_ : Int) (hs : s.item.P w) (h : k < 1 ∨ 4 < k) :
    Calls Try.prog 55 #[.pointer (some ⟨s.gw, 0, none⟩), deedV k who it, .int .i64 by_] w fun e w' => e = .returned (.int .i64 5) ∧ Sep s.item.fp w w' [s.item] := by
  unfold deedV
  rcases (show k < 1 ∨ (¬ k < 1 ∧ 4 < k) by omega) with h1 | ⟨h1, h2⟩
  all_goals
    clear h
    go_enter Try.func55, Try.ntmps55
    go_wp2_with fail
    go_ret
    exact ⟨rfl, unchanged hs (by repeat (first | with_reducible exact Below.refl _ _ | with_reducible (refine Below.setCell ?_ (by first | omega | (simp; done) | (simp; omega)) _) | with_reducible (refine Below.alloc ?_ (by first | omega | (simp; done) | (simp; omega)) _) | with_reducible refine Below.drew ?_ | with_reducible refine below_drewN ?_ _))⟩

section
variable {F : Nat → Prop} {W w : World} {s : Hz}
theorem Hz.afterGuard {j : Nat} {t : Th} {x : Int} (h : Sep F W w s.items) (hj : s.ths[j]? = some t) :
    Sep F W (w.setCell ⟨t.g, 0, none⟩ (.int .i64 x)) (Hz.items { s with ths := s.ths.set j { t with gd := x } }) := by
  have hjl : j < s.ths.length := (List.getElem?_eq_some_iff.1 hj).1
  have h1 : Sep F W w (Th.item t :: ([blkI s.gw 97 s.cells, rowI 98 1 s.At s.nt s.ct (s.ths.map Th.ptr), rowI 105 2 s.Af s.nf s.cf (fates s.freed)] ++ (s.ths.eraseIdx j).map Th.item)) :=
    Sep.focus (pre := [_, _, _]) h hj
  have h3 := h1.split.set_ 0 (g := t.g) (t := 100) (cs := t.cells) rfl 0 (.int .i64 x)
  have h4 : Sep F W (w.setCell ⟨t.g, 0, none⟩ (.int .i64 x)) ([blkI t.g 100 (t.cells.setIfInBounds 0 (.int .i64 x)), t.row] ++ ([blkI s.gw 97 s.cells, rowI 98 1 s.At s.nt s.ct (s.ths.map Th.ptr), rowI 105 2 s.Af s.nf s.cf (fates s.freed)] ++ (s.ths.eraseIdx j).map Th.item)) := h3
  have h6 := Sep.unfocus (f := Th.item) (t := { t with gd := x }) (l := s.ths) h4.join hjl
  have e : (s.ths.set j { t with gd := x }).map Th.ptr = s.ths.map Th.ptr := by
    rw [List.map_set]
    have : s.ths[j] = t := (List.getElem?_eq_some_iff.1 hj).2
    apply List.ext_getElem (by simp)
    intro i h1 h2
    rw [List.getElem_set]
    split
    · rename_i hij; subst hij; simp [this]
    · rfl
  unfold Hz.items
  simp only []
  rw [e]
  exact h6
theorem Hz.setGone {i : Nat} (h : Sep F W w s.items) (hg : s.gone.length = 100) (hi : i < 100) :
    Sep F W (w.setCell ⟨s.gw, 1 + i, none⟩ (.bool true)) (Hz.items { s with gone := s.gone.set i true }) := by
  have h3 := h.set_ 0 (g := s.gw) (t := 97) (cs := s.cells) rfl (1 + i) (.bool true)
  rw [Hz.setg s hg i hi] at h3
  exact h3
/-- The thread's two things ahead of all others. -/
def Hz.rest (s : Hz) (j : Nat) : List Item := [blkI s.gw 97 s.cells, rowI 98 1 s.At s.nt s.ct (s.ths.map Th.ptr), rowI 105 2 s.Af s.nf s.cf (fates s.freed)] ++ (s.ths.eraseIdx j).map Th.item
theorem Hz.open {j : Nat} {t : Th} (h : Sep F W w s.items) (hj : s.ths[j]? = some t) : Sep F W w (blkI t.g 100 t.cells :: t.row :: s.rest j) :=
  (Sep.focus (pre := [_, _, _]) h hj).split
theorem Hz.shut {j : Nat} {t t' : Th} (h : Sep F W w (blkI t'.g 100 t'.cells :: t'.row :: s.rest j)) (hj : s.ths[j]? = some t) (hp : t'.g = t.g) : Sep F W w (Hz.items { s with ths := s.ths.set j t' }) := by
  have hjl : j < s.ths.length := (List.getElem?_eq_some_iff.1 hj).1
  have h4 : Sep F W w ([blkI t'.g 100 t'.cells, t'.row] ++ ([blkI s.gw 97 s.cells, rowI 98 1 s.At s.nt s.ct (s.ths.map Th.ptr), rowI 105 2 s.Af s.nf s.cf (fates s.freed)] ++ (s.ths.eraseIdx j).map Th.item)) := h
  have h6 := Sep.unfocus (f := Th.item) (t := t') (l := s.ths) h4.join hjl
  have e : (s.ths.set j t').map Th.ptr = s.ths.map Th.ptr := by
    rw [List.map_set]
    have : s.ths[j] = t := (List.getElem?_eq_some_iff.1 hj).2
    apply List.ext_getElem (by simp)
    intro i h1 h2
    rw [List.getElem_set]
    split
    · rename_i hij; subst hij; simp [this, hp]
    · rfl
  unfold Hz.items
  simp only []
  rw [e]
  exact h6
end

set_option maxHeartbeats 400000 in
theorem does_who1a (w : World) (s : Hz) (who it by_ : Int) (hs : s.item.P w) (hg : s.gone.length = 100) (h1 : who < 0) :
    Calls Try.prog 55 #[.pointer (some ⟨s.gw, 0, none⟩), deedV 1 who it, .int .i64 by_] w fun e w' => e = .returned (.int .i64 2) ∧ Sep s.item.fp w w' [s.item] := by
  unfold deedV
  obtain ⟨f1, f2, f3, f4, f5, f6, f7, f8⟩ := Hz.facts (l := []) (Sep.start hs).flat hg
  clear f1 f6 f7 f8
  have h4 : decide (who < 0) = true := by simpa using h1
  go_enter Try.func55, Try.ntmps55
  go_wp2_with fail
  go_quiet (fail)
  go_wp2_with fail
  go_ret
  exact ⟨rfl, unchanged hs (by repeat (first | with_reducible exact Below.refl _ _ | with_reducible (refine Below.setCell ?_ (by first | omega | (simp; done) | (simp; omega)) _) | with_reducible (refine Below.alloc ?_ (by first | omega | (simp; done) | (simp; omega)) _) | with_reducible refine Below.drew ?_ | with_reducible refine below_drewN ?_ _))⟩

set_option maxHeartbeats 400000 in
theorem does_who1b (w : World) (s : Hz) (who it by_ : Int) (hs : s.item.P w) (hg : s.gone.length = 100) (h1 : ¬ who < 0) (h2 : s.nt ≤ who) :
    Calls Try.prog 55 #[.pointer (some ⟨s.gw, 0, none⟩), deedV 1 who it, .int .i64 by_] w fun e w' => e = .returned (.int .i64 2) ∧ Sep s.item.fp w w' [s.item] := by
  unfold deedV
  obtain ⟨f1, f2, f3, f4, f5, f6, f7, f8⟩ := Hz.facts (l := []) (Sep.start hs).flat hg
  clear f1 f6 f7 f8
  have h3 : decide ((s.nt : Int) ≤ who) = true := by simpa using h2
  have h4 : decide (who < 0) = false := by simpa using h1
  go_enter Try.func55, Try.ntmps55
  go_wp2_with fail
  go_quiet (fail)
  go_wp2_with fail
  go_ret
  exact ⟨rfl, unchanged hs (by repeat (first | with_reducible exact Below.refl _ _ | with_reducible (refine Below.setCell ?_ (by first | omega | (simp; done) | (simp; omega)) _) | with_reducible (refine Below.alloc ?_ (by first | omega | (simp; done) | (simp; omega)) _) | with_reducible refine Below.drew ?_ | with_reducible refine below_drewN ?_ _))⟩

set_option maxHeartbeats 400000 in
theorem does_who2a (w : World) (s : Hz) (who it by_ : Int) (hs : s.item.P w) (hg : s.gone.length = 100) (h1 : who < 0) :
    Calls Try.prog 55 #[.pointer (some ⟨s.gw, 0, none⟩), deedV 2 who it, .int .i64 by_] w fun e w' => e = .returned (.int .i64 2) ∧ Sep s.item.fp w w' [s.item] := by
  unfold deedV
  obtain ⟨f1, f2, f3, f4, f5, f6, f7, f8⟩ := Hz.facts (l := []) (Sep.start hs).flat hg
  clear f1 f6 f7 f8
  have h4 : decide (who < 0) = true := by simpa using h1
  go_enter Try.func55, Try.ntmps55
  go_wp2_with fail
  go_quiet (fail)
  go_wp2_with fail
  go_ret
  exact ⟨rfl, unchanged hs (by repeat (first | with_reducible exact Below.refl _ _ | with_reducible (refine Below.setCell ?_ (by first | omega | (simp; done) | (simp; omega)) _) | with_reducible (refine Below.alloc ?_ (by first | omega | (simp; done) | (simp; omega)) _) | with_reducible refine Below.drew ?_ | with_reducible refine below_drewN ?_ _))⟩

set_option maxHeartbeats 400000 in
theorem does_who2b (w : World) (s : Hz) (who it by_ : Int) (hs : s.item.P w) (hg : s.gone.length = 100) (h1 : ¬ who < 0) (h2 : s.nt ≤ who) :
    Calls Try.prog 55 #[.pointer (some ⟨s.gw, 0, none⟩), deedV 2 who it, .int .i64 by_] w fun e w' => e = .returned (.int .i64 2) ∧ Sep s.item.fp w w' [s.item] := by
  unfold deedV
  obtain ⟨f1, f2, f3, f4, f5, f6, f7, f8⟩ := Hz.facts (l := []) (Sep.start hs).flat hg
  clear f1 f6 f7 f8
  have h3 : decide ((s.nt : Int) ≤ who) = true := by simpa using h2
  have h4 : decide (who < 0) = false := by simpa using h1
  go_enter Try.func55, Try.ntmps55
  go_wp2_with fail
  go_quiet (fail)
  go_wp2_with fail
  go_ret
  exact ⟨rfl, unchanged hs (by repeat (first | with_reducible exact Below.refl _ _ | with_reducible (refine Below.setCell ?_ (by first | omega | (simp; done) | (simp; omega)) _) | with_reducible (refine Below.alloc ?_ (by first | omega | (simp; done) | (simp; omega)) _) | with_reducible refine Below.drew ?_ | with_reducible refine below_drewN ?_ _))⟩

set_option maxHeartbeats 400000 in
theorem does_who3a (w : World) (s : Hz) (who it by_ : Int) (hs : s.item.P w) (hg : s.gone.length = 100) (h1 : who < 0) :
    Calls Try.prog 55 #[.pointer (some ⟨s.gw, 0, none⟩), deedV 3 who it, .int .i64 by_] w fun e w' => e = .returned (.int .i64 2) ∧ Sep s.item.fp w w' [s.item] := by
  unfold deedV
  obtain ⟨f1, f2, f3, f4, f5, f6, f7, f8⟩ := Hz.facts (l := []) (Sep.start hs).flat hg
  clear f1 f6 f7 f8
  have h4 : decide (who < 0) = true := by simpa using h1
  go_enter Try.func55, Try.ntmps55
  go_wp2_with fail
  go_quiet (fail)
  go_wp2_with fail
  go_ret
  exact ⟨rfl, unchanged hs (by repeat (first | with_reducible exact Below.refl _ _ | with_reducible (refine Below.setCell ?_ (by first | omega | (simp; done) | (simp; omega)) _) | with_reducible (refine Below.alloc ?_ (by first | omega | (simp; done) | (simp; omega)) _) | with_reducible refine Below.drew ?_ | with_reducible refine below_drewN ?_ _))⟩

set_option maxHeartbeats 400000 in
theorem does_who3b (w : World) (s : Hz) (who it by_ : Int) (hs : s.item.P w) (hg : s.gone.length = 100) (h1 : ¬ who < 0) (h2 : s.nt ≤ who) :
    Calls Try.prog 55 #[.pointer (some ⟨s.gw, 0, none⟩), deedV 3 who it, .int .i64 by_] w fun e w' => e = .returned (.int .i64 2) ∧ Sep s.item.fp w w' [s.item] := by
  unfold deedV
  obtain ⟨f1, f2, f3, f4, f5, f6, f7, f8⟩ := Hz.facts (l := []) (Sep.start hs).flat hg
  clear f1 f6 f7 f8
  have h3 : decide ((s.nt : Int) ≤ who) = true := by simpa using h2
  have h4 : decide (who < 0) = false := by simpa using h1
  go_enter Try.func55, Try.ntmps55
  go_wp2_with fail
  go_quiet (fail)
  go_wp2_with fail
  go_ret
  exact ⟨rfl, unchanged hs (by repeat (first | with_reducible exact Below.refl _ _ | with_reducible (refine Below.setCell ?_ (by first | omega | (simp; done) | (simp; omega)) _) | with_reducible (refine Below.alloc ?_ (by first | omega | (simp; done) | (simp; omega)) _) | with_reducible refine Below.drew ?_ | with_reducible refine below_drewN ?_ _))⟩

set_option maxHeartbeats 400000 in
theorem does_who4a (w : World) (s : Hz) (who it by_ : Int) (hs : s.item.P w) (hg : s.gone.length = 100) (h1 : who < 0) :
    Calls Try.prog 55 #[.pointer (some ⟨s.gw, 0, none⟩), deedV 4 who it, .int .i64 by_] w fun e w' => e = .returned (.int .i64 2) ∧ Sep s.item.fp w w' [s.item] := by
  unfold deedV
  obtain ⟨f1, f2, f3, f4, f5, f6, f7, f8⟩ := Hz.facts (l := []) (Sep.start hs).flat hg
  clear f1 f6 f7 f8
  have h4 : decide (who < 0) = true := by simpa using h1
  go_enter Try.func55, Try.ntmps55
  go_wp2_with fail
  go_quiet (fail)
  go_wp2_with fail
  go_ret
  exact ⟨rfl, unchanged hs (by repeat (first | with_reducible exact Below.refl _ _ | with_reducible (refine Below.setCell ?_ (by first | omega | (simp; done) | (simp; omega)) _) | with_reducible (refine Below.alloc ?_ (by first | omega | (simp; done) | (simp; omega)) _) | with_reducible refine Below.drew ?_ | with_reducible refine below_drewN ?_ _))⟩

set_option maxHeartbeats 400000 in
theorem does_who4b (w : World) (s : Hz) (who it by_ : Int) (hs : s.item.P w) (hg : s.gone.length = 100) (h1 : ¬ who < 0) (h2 : s.nt ≤ who) :
    Calls Try.prog 55 #[.pointer (some ⟨s.gw, 0, none⟩), deedV 4 who it, .int .i64 by_] w fun e w' => e = .returned (.int .i64 2) ∧ Sep s.item.fp w w' [s.item] := by
  unfold deedV
  obtain ⟨f1, f2, f3, f4, f5, f6, f7, f8⟩ := Hz.facts (l := []) (Sep.start hs).flat hg
  clear f1 f6 f7 f8
  have h3 : decide ((s.nt : Int) ≤ who) = true := by simpa using h2
  have h4 : decide (who < 0) = false := by simpa using h1
  go_enter Try.func55, Try.ntmps55
  go_wp2_with fail
  go_quiet (fail)
  go_wp2_with fail
  go_ret
  exact ⟨rfl, unchanged hs (by repeat (first | with_reducible exact Below.refl _ _ | with_reducible (refine Below.setCell ?_ (by first | omega | (simp; done) | (simp; omega)) _) | with_reducible (refine Below.alloc ?_ (by first | omega | (simp; done) | (simp; omega)) _) | with_reducible refine Below.drew ?_ | with_reducible refine below_drewN ?_ _))⟩

set_option maxHeartbeats 400000 in
theorem does_item1a (w : World) (s : Hz) (who it by_ : Int) (hs : s.item.P w) (hg : s.gone.length = 100) (h1 : ¬ who < 0) (h2 : ¬ s.nt ≤ who) (h5 : it < 0) :
    Calls Try.prog 55 #[.pointer (some ⟨s.gw, 0, none⟩), deedV 1 who it, .int .i64 by_] w fun e w' => e = .returned (.int .i64 2) ∧ Sep s.item.fp w w' [s.item] := by
  unfold deedV
  obtain ⟨f1, f2, f3, f4, f5, f6, f7, f8⟩ := Hz.facts (l := []) (Sep.start hs).flat hg
  clear f1 f6 f7 f8
  have h3 : decide ((s.nt : Int) ≤ who) = false := by simpa using h2
  have h4 : decide (who < 0) = false := by simpa using h1
  have h6 : decide (it < 0) = true := by simpa using h5
  go_enter Try.func55, Try.ntmps55
  go_wp2_with fail
  go_quiet (fail)
  go_wp2_with fail
  go_ret
  exact ⟨rfl, unchanged hs (by repeat (first | with_reducible exact Below.refl _ _ | with_reducible (refine Below.setCell ?_ (by first | omega | (simp; done) | (simp; omega)) _) | with_reducible (refine Below.alloc ?_ (by first | omega | (simp; done) | (simp; omega)) _) | with_reducible refine Below.drew ?_ | with_reducible refine below_drewN ?_ _))⟩

set_option maxHeartbeats 400000 in
theorem does_item1b (w : World) (s : Hz) (who it by_ : Int) (hs : s.item.P w) (hg : s.gone.length = 100) (h1 : ¬ who < 0) (h2 : ¬ s.nt ≤ who) (h5 : ¬ it < 0) (h7 : 100 ≤ it) :
    Calls Try.prog 55 #[.pointer (some ⟨s.gw, 0, none⟩), deedV 1 who it, .int .i64 by_] w fun e w' => e = .returned (.int .i64 2) ∧ Sep s.item.fp w w' [s.item] := by
  unfold deedV
  obtain ⟨f1, f2, f3, f4, f5, f6, f7, f8⟩ := Hz.facts (l := []) (Sep.start hs).flat hg
  clear f1 f6 f7 f8
  have h3 : decide ((s.nt : Int) ≤ who) = false := by simpa using h2
  have h4 : decide (who < 0) = false := by simpa using h1
  have h6 : decide (it < 0) = false := by simpa using h5
  have h8 : decide (100 ≤ it) = true := by simpa using h7
  go_enter Try.func55, Try.ntmps55
  go_wp2_with fail
  go_quiet (fail)
  go_wp2_with fail
  go_ret
  exact ⟨rfl, unchanged hs (by repeat (first | with_reducible exact Below.refl _ _ | with_reducible (refine Below.setCell ?_ (by first | omega | (simp; done) | (simp; omega)) _) | with_reducible (refine Below.alloc ?_ (by first | omega | (simp; done) | (simp; omega)) _) | with_reducible refine Below.drew ?_ | with_reducible refine below_drewN ?_ _))⟩

set_option maxHeartbeats 400000 in
theorem does_item3a (w : World) (s : Hz) (who it by_ : Int) (hs : s.item.P w) (hg : s.gone.length = 100) (h1 : ¬ who < 0) (h2 : ¬ s.nt ≤ who) (h5 : it < 0) :
    Calls Try.prog 55 #[.pointer (some ⟨s.gw, 0, none⟩), deedV 3 who it, .int .i64 by_] w fun e w' => e = .returned (.int .i64 2) ∧ Sep s.item.fp w w' [s.item] := by
  unfold deedV
  obtain ⟨f1, f2, f3, f4, f5, f6, f7, f8⟩ := Hz.facts (l := []) (Sep.start hs).flat hg
  clear f1 f6 f7 f8
  have h3 : decide ((s.nt : Int) ≤ who) = false := by simpa using h2
  have h4 : decide (who < 0) = false := by simpa using h1
  have h6 : decide (it < 0) = true := by simpa using h5
  go_enter Try.func55, Try.ntmps55
  go_wp2_with fail
  go_quiet (fail)
  go_wp2_with fail
  go_ret
  exact ⟨rfl, unchanged hs (by repeat (first | with_reducible exact Below.refl _ _ | with_reducible (refine Below.setCell ?_ (by first | omega | (simp; done) | (simp; omega)) _) | with_reducible (refine Below.alloc ?_ (by first | omega | (simp; done) | (simp; omega)) _) | with_reducible refine Below.drew ?_ | with_reducible refine below_drewN ?_ _))⟩

set_option maxHeartbeats 400000 in
theorem does_item3b (w : World) (s : Hz) (who it by_ : Int) (hs : s.item.P w) (hg : s.gone.length = 100) (h1 : ¬ who < 0) (h2 : ¬ s.nt ≤ who) (h5 : ¬ it < 0) (h7 : 100 ≤ it) :
    Calls Try.prog 55 #[.pointer (some ⟨s.gw, 0, none⟩), deedV 3 who it, .int .i64 by_] w fun e w' => e = .returned (.int .i64 2) ∧ Sep s.item.fp w w' [s.item] := by
  unfold deedV
  obtain ⟨f1, f2, f3, f4, f5, f6, f7, f8⟩ := Hz.facts (l := []) (Sep.start hs).flat hg
  clear f1 f6 f7 f8
  have h3 : decide ((s.nt : Int) ≤ who) = false := by simpa using h2
  have h4 : decide (who < 0) = false := by simpa using h1
  have h6 : decide (it < 0) = false := by simpa using h5
  have h8 : decide (100 ≤ it) = true := by simpa using h7
  go_enter Try.func55, Try.ntmps55
  go_wp2_with fail
  go_quiet (fail)
  go_wp2_with fail
  go_ret
  exact ⟨rfl, unchanged hs (by repeat (first | with_reducible exact Below.refl _ _ | with_reducible (refine Below.setCell ?_ (by first | omega | (simp; done) | (simp; omega)) _) | with_reducible (refine Below.alloc ?_ (by first | omega | (simp; done) | (simp; omega)) _) | with_reducible refine Below.drew ?_ | with_reducible refine below_drewN ?_ _))⟩

set_option maxHeartbeats 400000 in
theorem does_gone1 (w : World) (s : Hz) (j i : Nat) (t : Th) (by_ : Int) (hs : s.item.P w) (hg : s.gone.length = 100) (hj : s.ths[j]? = some t) (hi : i < 100) (hgo : s.gone[i] = true) :
    Calls Try.prog 55 #[.pointer (some ⟨s.gw, 0, none⟩), deedV 1 j i, .int .i64 by_] w fun e w' => e = .returned (.int .i64 8) ∧ Sep s.item.fp w w' [s.item] := by
  unfold deedV
  obtain ⟨f1, f2, f3, f4, f5, f6, f7, f8⟩ := Hz.facts (l := []) (Sep.start hs).flat hg
  have hjn : j < s.nt := by have := f6.1; have h9 := (List.getElem?_eq_some_iff.1 hj).1; simp at this; omega
  have h3 : decide (s.nt ≤ j) = false := by simp; omega
  have h4 : decide ((j : Int) < 0) = false := by simp
  have h6 : decide ((i : Int) < 0) = false := by simp
  have h8 : decide (100 ≤ (i : Int)) = false := by simp; omega
  have hb := f1.cell (1 + i)
  rw [Hz.cg s hg i hi, hgo] at hb
  clear f1 f6 f7 f8
  go_enter Try.func55, Try.ntmps55
  go_wp2_with fail
  go_quiet (fail)
  go_wp2_with fail
  go_quiet (fail)
  go_wp2_with fail
  go_ret
  exact ⟨rfl, unchanged hs (by repeat (first | with_reducible exact Below.refl _ _ | with_reducible (refine Below.setCell ?_ (by first | omega | (simp; done) | (simp; omega)) _) | with_reducible (refine Below.alloc ?_ (by first | omega | (simp; done) | (simp; omega)) _) | with_reducible refine Below.drew ?_ | with_reducible refine below_drewN ?_ _))⟩

set_option maxHeartbeats 400000 in
theorem does_gone3 (w : World) (s : Hz) (j i : Nat) (t : Th) (by_ : Int) (hs : s.item.P w) (hg : s.gone.length = 100) (hj : s.ths[j]? = some t) (hi : i < 100) (hgo : s.gone[i] = true) :
    Calls Try.prog 55 #[.pointer (some ⟨s.gw, 0, none⟩), deedV 3 j i, .int .i64 by_] w fun e w' => e = .returned (.int .i64 8) ∧ Sep s.item.fp w w' [s.item] := by
  unfold deedV
  obtain ⟨f1, f2, f3, f4, f5, f6, f7, f8⟩ := Hz.facts (l := []) (Sep.start hs).flat hg
  have hjn : j < s.nt := by have := f6.1; have h9 := (List.getElem?_eq_some_iff.1 hj).1; simp at this; omega
  have h3 : decide (s.nt ≤ j) = false := by simp; omega
  have h4 : decide ((j : Int) < 0) = false := by simp
  have h6 : decide ((i : Int) < 0) = false := by simp
  have h8 : decide (100 ≤ (i : Int)) = false := by simp; omega
  have hb := f1.cell (1 + i)
  rw [Hz.cg s hg i hi, hgo] at hb
  clear f1 f6 f7 f8
  go_enter Try.func55, Try.ntmps55
  go_wp2_with fail
  go_quiet (fail)
  go_wp2_with fail
  go_quiet (fail)
  go_wp2_with fail
  go_ret
  exact ⟨rfl, unchanged hs (by repeat (first | with_reducible exact Below.refl _ _ | with_reducible (refine Below.setCell ?_ (by first | omega | (simp; done) | (simp; omega)) _) | with_reducible (refine Below.alloc ?_ (by first | omega | (simp; done) | (simp; omega)) _) | with_reducible refine Below.drew ?_ | with_reducible refine below_drewN ?_ _))⟩

set_option maxHeartbeats 400000 in
theorem does_guard (w : World) (s : Hz) (j i : Nat) (t : Th) (by_ : Int) (hs : s.item.P w) (hg : s.gone.length = 100) (hj : s.ths[j]? = some t) (hi : i < 100) (hgo : s.gone[i] = false) :
    Calls Try.prog 55 #[.pointer (some ⟨s.gw, 0, none⟩), deedV 1 j i, .int .i64 by_] w fun e w' => e = .returned (.int .i64 0) ∧ Sep s.item.fp w w' [Hz.item { s with ths := s.ths.set j { t with gd := i } }] := by
  unfold deedV
  obtain ⟨f1, f2, f3, f4, f5, f6, f7, f8⟩ := Hz.facts (l := []) (Sep.start hs).flat hg
  have hjn : j < s.nt := by have := f6.1; have h9 := (List.getElem?_eq_some_iff.1 hj).1; simp at this; omega
  have h3 : decide (s.nt ≤ j) = false := by simp; omega
  have h4 : decide ((j : Int) < 0) = false := by simp
  have h6 : decide ((i : Int) < 0) = false := by simp
  have h8 : decide (100 ≤ (i : Int)) = false := by simp; omega
  have hb := f1.cell (1 + i)
  rw [Hz.cg s hg i hi, hgo] at hb
  have htm : t ∈ s.ths := List.mem_of_getElem? hj
  obtain ⟨ad, hA, _, _, hc⟩ := f6.at_ hjn
  have hcell0 := hc t.ptr (by simp [hj])
  have hcell : ∀ o : Obj, (w.alloc o).cell? (ad.add j) = some t.ptr := fun o => by rw [World.cell?_alloc_lt w o _ (by rw [block_of_add]; assumption)]; exact hcell0
  clear hcell0
  rw [hA] at f2
  have HA := hide hA
  clear hA hc
  have hB := f7 t htm
  obtain ⟨p1, p2, p3⟩ := hB.rules
  unfold Th.cells at p1
  clear f1 f6 f7 f8
  go_enter Try.func55, Try.ntmps55
  go_wp2_with fail
  go_quiet (fail)
  go_wp2_with fail
  go_quiet (fail)
  go_wp2_with fail
  go_quiet (fail)
  go_wp2_with fail
  go_ret
  exact ⟨rfl, (Hz.afterGuard (((Sep.start hs).flat.alloc _).drewN _) hj).fold⟩

set_option maxHeartbeats 400000 in
theorem does_clear (w : World) (s : Hz) (j : Nat) (t : Th) (it by_ : Int) (hs : s.item.P w) (hg : s.gone.length = 100) (hj : s.ths[j]? = some t) :
    Calls Try.prog 55 #[.pointer (some ⟨s.gw, 0, none⟩), deedV 2 j it, .int .i64 by_] w fun e w' => e = .returned (.int .i64 0) ∧ Sep s.item.fp w w' [Hz.item { s with ths := s.ths.set j { t with gd := -1 } }] := by
  unfold deedV
  obtain ⟨f1, f2, f3, f4, f5, f6, f7, f8⟩ := Hz.facts (l := []) (Sep.start hs).flat hg
  have hjn : j < s.nt := by have := f6.1; have h9 := (List.getElem?_eq_some_iff.1 hj).1; simp at this; omega
  have h3 : decide (s.nt ≤ j) = false := by simp; omega
  have h4 : decide ((j : Int) < 0) = false := by simp
  have htm : t ∈ s.ths := List.mem_of_getElem? hj
  obtain ⟨ad, hA, _, _, hc⟩ := f6.at_ hjn
  have hcell0 := hc t.ptr (by simp [hj])
  have hcell : ∀ o : Obj, (w.alloc o).cell? (ad.add j) = some t.ptr := fun o => by rw [World.cell?_alloc_lt w o _ (by rw [block_of_add]; assumption)]; exact hcell0
  clear hcell0
  rw [hA] at f2
  have HA := hide hA
  clear hA hc
  have hB := f7 t htm
  obtain ⟨p1, p2, p3⟩ := hB.rules
  unfold Th.cells at p1
  clear f1 f6 f7 f8
  go_enter Try.func55, Try.ntmps55
  go_wp2_with fail
  go_quiet (fail)
  go_wp2_with fail
  go_quiet (fail)
  go_wp2_with fail
  go_quiet (fail)
  go_wp2_with fail
  go_ret
  exact ⟨rfl, (Hz.afterGuard (((Sep.start hs).flat.alloc _).drewN _) hj).fold⟩

set_option maxHeartbeats 1000000 in
theorem does_retire (w : World) (s : Hz) (j i : Nat) (t : Th) (by_ : Int) (hs : s.item.P w) (hg : s.gone.length = 100) (hj : s.ths[j]? = some t) (hi : i < 100) (hgo : s.gone[i] = false) (hn : t.n ≤ 10000) :
    Calls Try.prog 55 #[.pointer (some ⟨s.gw, 0, none⟩), deedV 3 j i, .int .i64 by_] w fun e w' => e = .returned (.int .i64 0) ∧ ∃ A n c, Sep s.item.fp w w' [Hz.item { s with gone := s.gone.set i true, ths := s.ths.set j { t with A := A, n := n, c := c, ws := t.ws ++ [(i : Int)] } }] := by
  unfold deedV
  obtain ⟨f1', f2, f3, f4, f5, f6, f7, f8⟩ := Hz.facts (l := []) (Sep.start hs).flat hg
  have hjn : j < s.nt := by have := f6.1; have h9 := (List.getElem?_eq_some_iff.1 hj).1; simp at this; omega
  have h3 : decide (s.nt ≤ j) = false := by simp; omega
  have h4 : decide ((j : Int) < 0) = false := by simp
  have h6 : decide ((i : Int) < 0) = false := by simp
  have h8 : decide (100 ≤ (i : Int)) = false := by simp; omega
  have hb := f1'.cell (1 + i)
  rw [Hz.cg s hg i hi, hgo] at hb
  have htm : t ∈ s.ths := List.mem_of_getElem? hj
  obtain ⟨ad, hA, _, _, hc⟩ := f6.at_ hjn
  have hcell0 := hc t.ptr (by simp [hj])
  have hcell : ∀ o : Obj, (w.alloc o).cell? (ad.add j) = some t.ptr := fun o => by rw [World.cell?_alloc_lt w o _ (by rw [block_of_add]; assumption)]; exact hcell0
  clear hcell0
  rw [hA] at f2
  have HA := hide hA
  clear hA hc
  have hB := f7 t htm
  obtain ⟨p1, p2, p3⟩ := hB.rules
  unfold Th.cells at p1
  have f1 := f1'
  clear f1 f6 f7 f8
  have hne : t.g ≠ s.gw := hB.ne_ f1' (by decide)
  have hne2 : w.heap.size ≠ s.gw := by omega
  have x1 : ∀ (W : World) (o : Nat) (v : Value), (W.setCell ⟨s.gw, 1 + i, none⟩ v).cell? ⟨t.g, o, none⟩ = W.cell? ⟨t.g, o, none⟩ := fun W o v => World.cell?_setCell_other W _ _ v (fun e => hne (congrArg Addr.block e).symm)
  have x2 : ∀ (W : World) (o : Nat) (v : Value), (W.setCell ⟨s.gw, 1 + i, none⟩ v).cell? ⟨w.heap.size, o, none⟩ = W.cell? ⟨w.heap.size, o, none⟩ := fun W o v => World.cell?_setCell_other W _ _ v (fun e => hne2 (congrArg Addr.block e).symm)
  have hSg : ∀ (o : Obj) (n : Nat), Sep s.item.fp w (((w.alloc o).drewN n).setCell ⟨s.gw, 1 + i, none⟩ (.bool true)) (blkI t.g 100 t.cells :: t.row :: Hz.rest { s with gone := s.gone.set i true } j) :=
    fun o n => Hz.open (Hz.setGone (((Sep.start hs).flat.alloc o).drewN n) hg hi) hj
  go_enter Try.func55, Try.ntmps55
  go_wp2_with fail
  go_quiet (fail)
  go_wp2_with fail
  go_quiet (fail)
  go_wp2_with fail
  go_quiet (fail)
  go_wp2_with fail
  go_region
  go_wp2_with fail
  go_region_law (first
    | (refine step_app1d (cs := #[.int .i64 (i : Int)]) rfl (.tmp 95) (.tmp 98) 40 rfl (F := s.item.fp) (W := w) sInt (items := blkI t.g 100 t.cells :: t.row :: Hz.rest { s with gone := s.gone.set i true } j) (by repeat (first | exact hSg _ _ | refine Sep.drew ?_ | refine Sep.drewN ?_ _)) 1 (n := t.n) rfl rfl rfl (by simp) rfl rfl (by omega) ?_
       intro A2 c2 w2 hS2 hC2
       obtain ⟨g1, g2, g3⟩ := hS2.rules 0 (g := t.g) (t := 100) (cs := t.cells) rfl
       unfold Th.cells at g1))
  all_goals
    go_wp2_with fail
    go_ret
    refine ⟨rfl, A2, t.n + 1, c2, ?_⟩
    have h5 := hS2.set_ 0 (g := t.g) (t := 100) (cs := t.cells) rfl 1 (.slice A2 (t.n + 1) c2)
    exact (Hz.shut (s := { s with gone := s.gone.set i true }) (j := j) (t := t) (t' := { t with A := A2, n := t.n + 1, c := c2, ws := t.ws ++ [(i : Int)] }) (by simpa [Th.row, Th.cells, ints] using h5) hj rfl).fold

set_option maxHeartbeats 400000 in
theorem does_scan (w : World) (s : Hz) (j : Nat) (t : Th) (it by_ : Int) (hs : s.item.P w) (hg : s.gone.length = 100) (hj : s.ths[j]? = some t) (ht : s.nt ≤ 100) (hf : s.nf + t.n ≤ 10000) (hn : t.n ≤ 10000) :
    Calls Try.prog 55 #[.pointer (some ⟨s.gw, 0, none⟩), deedV 4 j it, .int .i64 by_] w fun e w' => ∃ A n c Af nf cf, e = .returned (.int .i64 0) ∧ Sep s.item.fp w w' [Hz.item { s with Af := Af, nf := nf, cf := cf, freed := s.freed ++ scanFreed s.ths t.ws by_, ths := s.ths.set j { t with A := A, n := n, c := c, ws := scanLeft s.ths t.ws } }] := by
  unfold deedV
  obtain ⟨f1, f2, f3, f4, f5, f6, f7, f8⟩ := Hz.facts (l := []) (Sep.start hs).flat hg
  have hjn : j < s.nt := by have := f6.1; have h9 := (List.getElem?_eq_some_iff.1 hj).1; simp at this; omega
  have h3 : decide (s.nt ≤ j) = false := by simp; omega
  have h4 : decide ((j : Int) < 0) = false := by simp
  have htm : t ∈ s.ths := List.mem_of_getElem? hj
  obtain ⟨ad, hA, _, _, hc⟩ := f6.at_ hjn
  have hcell0 := hc t.ptr (by simp [hj])
  have hcell : ∀ o : Obj, (w.alloc o).cell? (ad.add j) = some t.ptr := fun o => by rw [World.cell?_alloc_lt w o _ (by rw [block_of_add]; assumption)]; exact hcell0
  clear hcell0
  rw [hA] at f2
  have HA := hide hA
  clear hA hc
  have hB := f7 t htm
  obtain ⟨p1, p2, p3⟩ := hB.rules
  unfold Th.cells at p1
  clear f1 f6 f7 f8
  have hs0 : ∀ (o : Obj) (n : Nat), s.item.P ((w.alloc o).drewN n) := fun o n => (((Sep.start hs).alloc o).drewN n).get 0 rfl
  go_enter Try.func55, Try.ntmps55
  go_wp2_with fail
  go_quiet (fail)
  go_wp2_with fail
  go_quiet (fail)
  go_wp2_with fail
  go_quiet (fail)
  go_wp2_with fail
  refine (scan_any _ s j t by_ hj (hs0 _ _) hg ht hf hn).mono ?_
  rintro e w1 ⟨A2, n2, c2, Af2, nf2, cf2, rfl, hS2⟩
  go_wp2_with fail
  go_ret
  exact ⟨A2, n2, c2, Af2, nf2, cf2, rfl, ((((Sep.start hs).alloc _).drewN _).call 0 rfl hS2)⟩

end Go.Proofs.Ytpbafmdebflbpaa
