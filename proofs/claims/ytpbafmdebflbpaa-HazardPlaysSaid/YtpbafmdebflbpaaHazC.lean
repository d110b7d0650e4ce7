/- hazard: scan. -/
import Derived.Test.YtpbafmdebflbpaaHazB
namespace Go.Proofs.Ytpbafmdebflbpaa
open Go.RowKit

def Th.row (t : Th) : Item := rowI 3 1 t.A t.n t.c (ints t.ws)
def Th.item (t : Th) : Item := allI [blkI t.g 100 t.cells, t.row]

/-- The whole of it as it lies. -/
structure Hz where
  gw : Nat
  At : Option Addr
  nt : Nat
  ct : Nat
  Af : Option Addr
  nf : Nat
  cf : Nat
  gone : List Bool
  freed : List (Int × Int)
  ths : List Th
def Hz.cells (s : Hz) : Array Value := (Value.slice s.At s.nt s.ct :: (s.gone.map Value.bool ++ [.slice s.Af s.nf s.cf])).toArray
def Hz.items (s : Hz) : List Item := blkI s.gw 97 s.cells :: rowI 98 1 s.At s.nt s.ct (s.ths.map Th.ptr) :: rowI 105 2 s.Af s.nf s.cf (fates s.freed) :: s.ths.map Th.item
def Hz.item (s : Hz) : Item := allI s.items

theorem Hz.c0 (s : Hz) : s.cells[0]? = some (.slice s.At s.nt s.ct) := rfl
theorem Hz.c101 (s : Hz) (h : s.gone.length = 100) : s.cells[101]? = some (.slice s.Af s.nf s.cf) := by
  unfold Hz.cells
  rw [List.getElem?_toArray, List.getElem?_cons_succ, List.getElem?_append_right (by simp [h])]
  simp [h]
theorem Hz.cg (s : Hz) (h : s.gone.length = 100) (i : Nat) (hi : i < 100) : s.cells[1 + i]? = some (.bool (s.gone[i]'(by omega))) := by
  unfold Hz.cells
  rw [List.getElem?_toArray, show 1 + i = i + 1 from by omega, List.getElem?_cons_succ, List.getElem?_append_left (by simp [h]; exact hi)]
  simp [h, hi]
theorem Hz.set101 (s : Hz) (h : s.gone.length = 100) (A : Option Addr) (n c : Nat) : s.cells.setIfInBounds 101 (.slice A n c) = Hz.cells { s with Af := A, nf := n, cf := c } := by
  unfold Hz.cells
  rw [← Array.toList_inj]
  simp only [Array.toList_setIfInBounds, List.set_cons_succ, List.cons.injEq, true_and]
  rw [List.set_append_right _ _ (by simp [h])]
  simp [h]
theorem Hz.setg (s : Hz) (h : s.gone.length = 100) (i : Nat) (hi : i < 100) (b : Bool) : s.cells.setIfInBounds (1 + i) (.bool b) = Hz.cells { s with gone := s.gone.set i b } := by
  unfold Hz.cells
  rw [← Array.toList_inj]
  simp only [Array.toList_setIfInBounds, show 1 + i = i + 1 from by omega, List.set_cons_succ, List.cons.injEq, true_and]
  rw [List.set_append_left _ _ (by simp [h]; exact hi)]
  simp [List.map_set]

section
variable {F : Nat → Prop} {W w : World} {l : List Item} {s : Hz}
/-- What the walk wants of the whole, whatever stands ahead of it. -/
theorem Hz.facts (h : Sep F W w (l ++ s.items)) (hg : s.gone.length = 100) :
    Blk w s.gw 97 s.cells ∧ w.cell? ⟨s.gw, 0, none⟩ = some (.slice s.At s.nt s.ct) ∧ w.cell? ⟨s.gw, 101, none⟩ = some (.slice s.Af s.nf s.cf) ∧ (∀ i, w.frozen? ⟨s.gw, i, none⟩ = false) ∧ s.gw < w.heap.size ∧
    Rd w (fun _ => True) 1 s.At s.nt (s.ths.map Th.ptr) ∧ (∀ t ∈ s.ths, Blk w t.g 100 t.cells) ∧ (∀ t ∈ s.ths, Rd w (fun _ => True) 1 t.A t.n (ints t.ws)) := by
  have hB : Blk w s.gw 97 s.cells := h.all (blkI s.gw 97 s.cells) (by simp [Hz.items])
  have hR : w.ownsRow 0 98 1 (.slice s.At s.nt s.ct) s.nt (s.ths.map Th.ptr) := h.all (rowI 98 1 s.At s.nt s.ct (s.ths.map Th.ptr)) (by simp [Hz.items])
  have hT : ∀ t ∈ s.ths, t.item.P w := fun t ht => h.all t.item (by simp [Hz.items]; exact .inr (.inr (.inr (.inr ⟨t, ht, rfl⟩))))
  refine ⟨hB, by rw [hB.cell, s.c0], by rw [hB.cell, s.c101 hg], hB.frozen, hB.lt, Rd.of_own hR (fun _ _ => trivial), fun t ht => (hT t ht).1 (blkI t.g 100 t.cells) (by simp), fun t ht => ?_⟩
  have := (hT t ht).1 t.row (by simp)
  exact Rd.of_own (show w.ownsRow 0 3 1 (.slice t.A t.n t.c) t.n (ints t.ws) from this) (fun _ _ => trivial)
end

theorem fates_app (l : List (Int × Int)) (p : Int × Int) : fates (l ++ [p]) = fates l ++ [.int .i64 p.1, .int .i64 p.2] := by simp [fates]
section
variable {F : Nat → Prop} {W w : World} {s : Hz} {x : Item}
theorem Hz.afterFreed {A : Option Addr} {n c : Nat} {fr : List (Int × Int)} (h : Sep F W w ((x :: s.items).set 3 (rowI 105 2 A n c (fates fr)))) (hg : s.gone.length = 100) :
    Sep F W (w.setCell ⟨s.gw, 101, none⟩ (.slice A n c)) (x :: Hz.items { s with Af := A, nf := n, cf := c, freed := fr }) := by
  have h3 := h.set_ 1 (g := s.gw) (t := 97) (cs := s.cells) rfl 101 (.slice A n c)
  rw [Hz.set101 s hg] at h3
  exact h3
theorem Hz.afterScan {A : Option Addr} {n c j : Nat} {t : Th} {ws : List Int} (h : Sep F W w (rowI 3 1 A n c (ints ws) :: s.items)) (hj : s.ths[j]? = some t) :
    Sep F W (w.setCell ⟨t.g, 1, none⟩ (.slice A n c)) (Hz.items { s with ths := s.ths.set j { t with A := A, n := n, c := c, ws := ws } }) := by
  have hjl : j < s.ths.length := (List.getElem?_eq_some_iff.1 hj).1
  have h1 : Sep F W w (Th.item t :: ([rowI 3 1 A n c (ints ws), blkI s.gw 97 s.cells, rowI 98 1 s.At s.nt s.ct (s.ths.map Th.ptr), rowI 105 2 s.Af s.nf s.cf (fates s.freed)] ++ (s.ths.eraseIdx j).map Th.item)) :=
    Sep.focus (pre := [_, _, _, _]) h hj
  have h2 := h1.split
  have h3 := h2.set_ 0 (g := t.g) (t := 100) (cs := t.cells) rfl 1 (.slice A n c)
  have h4 : Sep F W (w.setCell ⟨t.g, 1, none⟩ (.slice A n c)) ([blkI t.g 100 (t.cells.setIfInBounds 1 (.slice A n c)), rowI 3 1 A n c (ints ws)] ++ ([blkI s.gw 97 s.cells, rowI 98 1 s.At s.nt s.ct (s.ths.map Th.ptr), rowI 105 2 s.Af s.nf s.cf (fates s.freed)] ++ (s.ths.eraseIdx j).map Th.item)) :=
    h3.sub (by simp)
  have h5 := h4.join
  have h6 := Sep.unfocus (f := Th.item) (t := { t with A := A, n := n, c := c, ws := ws }) (l := s.ths) h5 hjl
  have e : (s.ths.set j { t with A := A, n := n, c := c, ws := ws }).map Th.ptr = s.ths.map Th.ptr := by
    rw [List.map_set]
    have : s.ths[j] = t := (List.getElem?_eq_some_iff.1 hj).2
    apply List.ext_getElem (by simp)
    intro i h1 h2
    rw [List.getElem_set]
    split
    · rename_i hij; subst hij; simp [this]
    · rfl
  unfold Hz.items
  simp only []
  rw [e]
  exact h6
end

def scanLeft (ths : List Th) (ws : List Int) : List Int := ws.filter fun x => isGuarded ths x
def scanFreed (ths : List Th) (ws : List Int) (by_ : Int) : List (Int × Int) := (ws.filter fun x => !isGuarded ths x).map fun x => (x, by_)

set_option maxHeartbeats 800000 in
theorem scan_any (w : World) (s : Hz) (j : Nat) (t : Th) (by_ : Int) (hj : s.ths[j]? = some t) (hs : s.item.P w) (hg : s.gone.length = 100) (ht : s.nt ≤ 100) (hf : s.nf + t.n ≤ 10000) (hn : t.n ≤ 10000) :
    Calls Try.prog 98 #[.pointer (some ⟨s.gw, 0, none⟩), .pointer (some ⟨t.g, 0, none⟩), .int .i64 by_] w fun e w' => ∃ A n c Af nf cf, e = .returned (.tuple #[]) ∧
      Sep s.item.fp w w' [Hz.item { s with Af := Af, nf := nf, cf := cf, freed := s.freed ++ scanFreed s.ths t.ws by_, ths := s.ths.set j { t with A := A, n := n, c := c, ws := scanLeft s.ths t.ws } }] := by
  have hS0 := (Sep.start hs).flat.nilRow0 3 1
  have htm : t ∈ s.ths := List.mem_of_getElem? hj
  obtain ⟨f1, f2, f3, f4, f5, f6, f7, f8⟩ := Hz.facts (l := [rowI 3 1 none 0 0 []]) hS0 hg
  obtain ⟨p1, p2, p3⟩ := (f7 t htm).rules
  unfold Th.cells at p1
  go_enter Try.func98, Try.ntmps98
  go_wp2_with fail
  go_loopw [6, 14] (fun l i wr => ∃ (k nl cl nf cf : Nat) (Al Af : Option Addr), k ≤ t.n ∧ i = .int .i64 k ∧ l = .slice Al nl cl ∧ nl ≤ k ∧ nf ≤ s.nf + k ∧
      Sep s.item.fp w wr (rowI 3 1 Al nl cl (ints (scanLeft s.ths (t.ws.take k))) :: Hz.items { s with Af := Af, nf := nf, cf := cf, freed := s.freed ++ scanFreed s.ths (t.ws.take k) by_ })) (fun _ i _ => t.n - (intOf i).toNat)
  case atStart => exact ⟨0, 0, 0, s.nf, s.cf, none, s.Af, by omega, rfl, rfl, by omega, by omega, by simpa [scanLeft, scanFreed] using hS0⟩
  case round =>
    clear f1 f2 f3 f4 f5 f6 f7 f8 p1 p2 p3
    obtain ⟨k, nl, cl, nf, cf, Al, Af, hk, rfl, rfl, hnl, hnf, hS⟩ := hrel
    obtain ⟨f1, f2, f3, f4, f5, f6, f7, f8⟩ := Hz.facts (l := [_]) hS hg
    obtain ⟨p1, p2, p3⟩ := (f7 t htm).rules
    unfold Th.cells at p1
    have hlen : t.ws.length = t.n := by have := (f8 t htm).1; simpa using this
    have HL := hide hlen
    clear hlen
    by_cases hlt : k < t.n
    · obtain ⟨ad, hA, _, _, hc⟩ := (f8 t htm).at_ hlt
      have hkl : k < t.ws.length := by rw [HL.out]; exact hlt
      have hcell := hc (.int .i64 t.ws[k]) (by simp [List.getElem?_eq_getElem hkl])
      have HT := hide (List.take_succ_eq_append_getElem hkl)
      have HA := hide hA
      clear hc
      rw [hA]
      clear hA
      go_wp2_with fail
      refine (guarded_any _ _ _ _ _ _ s.ths _ ht f6 f7 f5 f2).mono ?_
      rintro e w1 ⟨rfl, hC1⟩
      have hS1 := hS.chg hC1 (fun _ _ _ h => h.elim) (fun _ h => h.elim)
      clear f1 f2 f3 f4 f5 f6 f7 f8 p1 p2 p3 hcell
      obtain ⟨f1, f2, f3, f4, f5, f6, f7, f8⟩ := Hz.facts (l := [_]) hS1 hg
      by_cases hq : isGuarded s.ths t.ws[k] = true
      · have HQ := hide hq
        clear f1 f6 f7 f8
        go_wp2_with (first
          | (at_builtin
             refine wpList_app1 rfl (.tmp 21) (.tmp 23) 40 rfl sInt hS1 0 rfl rfl rfl (by simp) rfl rfl (by omega) ?_
             intro A2 c2 w2 hS2 hC2))
        go_roundw
        case rel => exact ⟨k + 1, nl + 1, c2, nf, cf, A2, Af, by omega, by go_num, rfl, by omega, by omega, by
          have h1 : scanLeft s.ths (t.ws.take (k + 1)) = scanLeft s.ths (t.ws.take k) ++ [t.ws[k]] := by
            rw [HT.out]; simp only [scanLeft, List.filter_append, List.filter_cons, HQ.out, if_true, List.filter_nil]
          have h2 : scanFreed s.ths (t.ws.take (k + 1)) by_ = scanFreed s.ths (t.ws.take k) by_ := by
            rw [HT.out]; simp only [scanFreed, List.filter_append, List.filter_cons, HQ.out, Bool.not_true, Bool.false_eq_true, if_false, List.filter_nil, List.append_nil]
          rw [h1, h2]
          simpa [ints] using hS2⟩
        case measure => simp [intOf]; omega
      · have HQ := hide hq
        have hq' : isGuarded s.ths t.ws[k] = false := by simpa using hq
        clear hq f1 f6 f7 f8
        go_wp2_with (first
          | (at_builtin
             refine wpList_app1 rfl (.tmp 29) (.tmp 33) 39 rfl sFate hS1 3 (n := nf) rfl rfl rfl (by simp) rfl rfl (by omega) ?_
             intro A2 c2 w2 hS2 hC2
             obtain ⟨g1, g2, g3⟩ := hS2.rules 1 rfl
             (have g0 : w2.cell? ⟨s.gw, 101, none⟩ = some (.slice Af nf cf) := by rw [g1]; exact Hz.c101 _ hg)
             clear g1))
        go_roundw
        case rel => exact ⟨k + 1, nl, cl, nf + 1, c2, Al, A2, by omega, by go_num, rfl, by omega, by omega, by
          have h1 : scanLeft s.ths (t.ws.take (k + 1)) = scanLeft s.ths (t.ws.take k) := by
            rw [HT.out]; simp only [scanLeft, List.filter_append, List.filter_cons, hq', Bool.false_eq_true, if_false, List.filter_nil, List.append_nil]
          have h2 : scanFreed s.ths (t.ws.take (k + 1)) by_ = scanFreed s.ths (t.ws.take k) by_ ++ [(t.ws[k], by_)] := by
            rw [HT.out]; simp only [scanFreed, List.filter_append, List.filter_cons, hq', Bool.not_false, if_true, List.filter_nil, List.map_append, List.map_cons, List.map_nil]
          rw [h1, h2, ← List.append_assoc]
          refine Hz.afterFreed (s := { s with Af := Af, nf := nf, cf := cf, freed := s.freed ++ scanFreed s.ths (t.ws.take k) by_ }) ?_ hg
          rw [fates_app]
          exact hS2⟩
        case measure => simp [intOf]; omega
    · go_wp2_with fail
      go_end0
      have hall : t.ws.take k = t.ws := List.take_of_length_le (by rw [HL.out]; omega)
      rw [hall] at hS
      exact ⟨rfl, Al, nl, cl, Af, nf, cf, (Hz.afterScan hS hj).fold⟩
end Go.Proofs.Ytpbafmdebflbpaa
