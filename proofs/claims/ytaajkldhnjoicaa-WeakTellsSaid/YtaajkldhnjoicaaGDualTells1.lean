/- Counts and traces: the program's Solves, Least, Greatest. Counts and traces: the program's Solves, Least, Greatest. Counts and traces: the reference's pointed. -/
import Derived.Test.YtaajkldhnjoicaaGDualTells0
import Derived.Deep.RegionHeld3
import Derived.Deep.LoopGhost
import Derived.Test.YtaajkldhnjoicaaGTrialTells2
set_option linter.unusedSimpArgs false
set_option linter.unusedVariables false
namespace Go.Proofs.Ytaajkldhnjoicaa
open Go.RowKit Go.Shelf

set_option maxHeartbeats 1600000 in
theorem eqInts_any (w : World) (D D' : Nat → Prop) (A A' : Option Addr) (n n' c c' : Nat) (xs ys : List Int) (hn : n ≤ 1000) (hn' : n' ≤ 1000)
    (h : Rd w D 1 A n (ints xs)) (h' : Rd w D' 1 A' n' (ints ys)) :
    Calls Try.prog 94 #[.slice A n c, .slice A' n' c'] w fun e w' => e = .returned (.bool (decide (xs = ys))) ∧ Below w.heap.size w w' := by
  have hl : xs.length = n := by have := h.1; simpa using this
  have hl' : ys.length = n' := by have := h'.1; simpa using this
  have HL := hide hl
  have HL' := hide hl'
  by_cases hnn : n = n'
  · subst hnn
    clear hl hl'
    go_enter Try.func94, Try.ntmps94
    go_wp2_with fail
    go_loopw [5, 13] (fun _ i wr => ∃ k : Nat, k ≤ n ∧ i = .int .i64 k ∧ Hid (xs.take k = ys.take k) ∧ Below w.heap.size w wr) (fun _ i _ => n - (intOf i).toNat)
    case atStart => exact ⟨0, by omega, rfl, by simp [Hid], Below.refl _ _⟩
    case round =>
      obtain ⟨k, hk, rfl, HE, hB⟩ := hrel
      by_cases hlt : k < n
      · have hkl : k < xs.length := by rw [HL.out]; exact hlt
        have hkl' : k < ys.length := by rw [HL'.out]; exact hlt
        obtain ⟨ad, hA, _, had, hc⟩ := (h.below hB).at_ hlt
        obtain ⟨ad', hA', _, had', hc'⟩ := (h'.below hB).at_ hlt
        have e0 := hc _ (ints_get' xs k hkl)
        have e1 := hc' _ (ints_get' ys k hkl')
        have HT := hide (List.take_succ_eq_append_getElem hkl)
        have HT' := hide (List.take_succ_eq_append_getElem hkl')
        have HG := hide (List.getElem?_eq_getElem hkl)
        have HG' := hide (List.getElem?_eq_getElem hkl')
        obtain ⟨x, hx⟩ : ∃ x, xs[k] = x := ⟨_, rfl⟩
        obtain ⟨y, hy⟩ : ∃ x, ys[k] = x := ⟨_, rfl⟩
        rw [hx] at e0 HT HG
        rw [hy] at e1 HT' HG'
        subst hA hA'
        clear hc hc' hx hy
        by_cases hxy : x = y
        · subst hxy
          have HE2 := hide (show xs.take (k + 1) = ys.take (k + 1) from by rw [HT.out, HT'.out, HE.out])
          clear HT HT' HE HG HG'
          go_wp2_with fail
          go_quiet (fail)
          go_wp2_with fail
          go_roundw
          case rel => exact ⟨k + 1, by omega, by go_num, HE2, below_drewN hB _⟩
          case measure => simp [intOf]; omega
        · have HD := hide (show decide (xs = ys) = false from by
            rw [decide_eq_false_iff_not]
            rintro rfl
            have h1 := HG.out.symm.trans HG'.out
            injection h1 with h1
            exact hxy h1)
          have h1 : (x == y) = false := by simpa using hxy
          clear HT HT' HE HG HG' hxy
          go_wp2_with fail
          go_quiet (fail)
          go_wp2_with fail
          go_ret
          exact ⟨by rw [HD.out] <;> rfl, below_drewN hB _⟩
      · have HD := hide (show decide (xs = ys) = true from by
          have h1 := HE.out
          rw [List.take_of_length_le (by rw [HL.out]; omega), List.take_of_length_le (by rw [HL'.out]; omega)] at h1
          simp [h1])
        go_wp2_with fail
        go_ret
        exact ⟨by rw [HD.out] <;> rfl, hB⟩
  · have HD := hide (show decide (xs = ys) = false from by
      rw [decide_eq_false_iff_not]
      rintro rfl
      omega)
    have k1 : ((n : Int) != (n' : Int)) = true := by rw [bne_iff_ne]; omega
    have k2 : (n != n') = true := by simp [hnn]
    clear hl hl'
    go_enter Try.func94, Try.ntmps94
    go_wp2_with fail
    go_ret
    exact ⟨by rw [HD.out] <;> rfl, Below.refl _ _⟩
end Go.Proofs.Ytaajkldhnjoicaa

namespace Go.Proofs.Ytaajkldhnjoicaa
open Go.RowKit

set_option maxRecDepth 100000 in
set_option maxHeartbeats 8000000 in
theorem settle_bad (w : World) (i : Int) (AO AR : Option Addr) (nO cO nR cR : Nat) (obs : List Ob) (roots : List Val) (hO : ObsRd w (fun _ => True) AO nO obs) (hR : Rd w (fun _ => True) 2 AR nR (vals roots)) (hz : gcheck nO nR obs roots ≠ 0) :
    Calls Try.prog 96 #[.agg #[.slice AO nO cO, .slice AR nR cR], .int .i64 i] w fun e w' => e = .returned (.tuple #[.slice none 0 0, .int .i64 (gcheck nO nR obs roots)]) ∧ Below w.heap.size w w' := by
  have hB0 : Below w.heap.size w (w.alloc (.cells #[.slice AO nO cO, .slice AR nR cR] 25)) := (Below.refl _ w).alloc (Nat.le_refl _) _
  have C1 := hide (graphCheck_any _ AO AR nO cO nR cR obs roots (hO.below hB0) (hR.below hB0))
  obtain ⟨x, hx⟩ : ∃ x, gcheck nO nR obs roots = x := ⟨_, rfl⟩
  rw [hx] at C1 hz ⊢
  have y1 : (x != 0) = true := by rw [bne_iff_ne]; exact hz
  have HB0 := hide hB0
  obtain ⟨a1, a2, a3⟩ := (Blk.new w 25 #[.slice AO nO cO, .slice AR nR cR]).rules
  clear hz hx hB0
  go_enter Try.func96, Try.ntmps96
  go_wp2_with fail
  refine C1.out.mono ?_
  rintro e w1 ⟨rfl, hb1⟩
  go_wp2_with fail
  go_ret2
  exact ⟨rfl, HB0.out.trans (hb1.mono HB0.out.size)⟩

set_option maxRecDepth 100000 in
set_option maxHeartbeats 8000000 in
theorem settle_ok (w : World) (i : Int) (u : Bool) (AO AR : Option Addr) (nO cO nR cR : Nat) (obs : List Ob) (roots : List Val) (gs : List (List Val)) (h3 : obs.map Ob.fields = gs) (hO : ObsRd w (fun _ => True) AO nO obs) (hR : Rd w (fun _ => True) 2 AR nR (vals roots)) (hz : gcheck nO nR obs roots = 0) (hu : Dir gs roots nO u (List.replicate nO i)) :
    Calls Try.prog 96 #[.agg #[.slice AO nO cO, .slice AR nR cR], .int .i64 i] w fun e w' => ∃ A c l, e = .returned (.tuple #[.slice A nO c, .int .i64 0]) ∧ Ran gs roots nO i l ∧ ptl gs roots nO (sp l) = l ∧ Sep No w w' [rowI 3 1 A nO c (ints l)] := by
  have hG := gok_of hO hz
  have hn := hG.nO_
  have hS0 := (Sep.nil No w).blkAt 25 #[.slice AO nO cO, .slice AR nR cR] rfl
  obtain ⟨a1, a2, a3, a4⟩ := hS0.rules 0 (g := w.heap.size) (t := 25) rfl
  have C1 := hide (graphCheck_any _ AO AR nO cO nR cR obs roots (hO.below hS0.below_) (hR.below hS0.below_))
  rw [hz] at C1
  have CC := hide (fun (w' : World) (hb : Below w.heap.size w w') (A : Option Addr) (c : Nat) (l : List Int) (hC : Rd w' (fun _ => True) 1 A nO (ints l)) => counted_any w' AO AR A nO cO nR cR c obs roots gs l h3 (hO.below hb) (hR.below hb) hC hG)
  have HS0 := hide hS0
  have HU := hide hu
  clear hz hS0 a4 hO hR hG h3 hu
  go_enter Try.func96, Try.ntmps96
  go_wp2_with fail
  refine C1.out.mono ?_
  rintro e w1 ⟨rfl, hb1⟩
  have hS1 := HS0.out.below hb1
  obtain ⟨b1, b2, b3, b4⟩ := hS1.rules 0 (g := w.heap.size) (t := 25) rfl
  have b5 := (b1 0).trans (show _ = some (.slice AO nO cO) from rfl)
  have b6 := (b1 1).trans (show _ = some (.slice AR nR cR) from rfl)
  have HS1 := hide hS1
  have C2 := hide (repeat_any (w1.alloc (.cells #[.int .i64 i] 3)) i nO w1.heap.size hn (Blk.new w1 3 #[.int .i64 i]))
  clear hb1 hS1 HS0 C1 a1 a2 a3 b1 b4
  go_wp2_with fail
  refine C2.out.mono ?_
  rintro e w2 ⟨A, c, rfl, hP⟩
  have HS2 := hide (sepNewR (HS1.out.alloc (.cells #[.int .i64 i] 3)) hP)
  have HR0 := hide (Ran.zero (gs := gs) (vs := roots) (n := nO) (i := i))
  clear hP HS1 C2 b2 b3 b5 b6
  go_wp2_with fail
  go_loopg [7] (mu gs roots nO u (List.replicate nO i)) (fun q s7 wr => ∃ (l : List Int) (A : Option Addr) (c : Nat), q = mu gs roots nO u l ∧ s7 = .slice A nO c ∧ Hid (Ran gs roots nO i l) ∧ Hid (Dir gs roots nO u l) ∧ Sep No w wr [blkI w.heap.size 25 #[.slice AO nO cO, .slice AR nR cR], rowI 3 1 A nO c (ints l)])
  case atStart => exact ⟨_, A, c, rfl, rfl, HR0, HU, HS2.out⟩
  case round =>
    clear HS2 HR0 HU
    obtain ⟨l, A, c, hgk, rfl, HRN, HD, hS⟩ := hrel
    obtain ⟨x1, x2, x3, x4⟩ := hS.rules 0 (g := w.heap.size) (t := 25) rfl
    have x5 := (x1 0).trans (show _ = some (.slice AO nO cO) from rfl)
    have x6 := (x1 1).trans (show _ = some (.slice AR nR cR) from rfl)
    have C3 := hide (CC.out wr hS.below_ A c l (hS.rd_ 1 rfl))
    have HS := hide hS
    have HK := hide hgk
    clear hS x1 x4 hgk
    go_wp2_with fail
    refine C3.out.mono ?_
    rintro e w5 ⟨A5, c5, l5, rfl, hl5, hP5⟩
    obtain rfl : l5 = ptl gs roots nO (sp l) := hl5.eq
    have hS5 := sepNewR HS.out hP5
    have C4 := hide (eqInts_any w5 _ _ A5 A nO nO c5 c (ptl gs roots nO (sp l)) l (by omega) (by omega) (hS5.rd_ 2 rfl) (hS5.rd_ 1 rfl))
    have HS5 := hide hS5
    have HRN2 := hide (Ran.step l HRN.out)
    have HD2 := hide HD.out.next
    have HLS := hide (fun h => HD.out.less h)
    obtain ⟨l5, hl⟩ : ∃ x, ptl gs roots nO (sp l) = x := ⟨_, rfl⟩
    rw [hl] at C4 HS5 HRN2 HD2 HLS
    have HL := hide hl
    clear hl5 hP5 hS5 HS C3 x2 x3 x5 x6 HD hl
    by_cases he : l5 = l
    · have hd : decide (l5 = l) = true := by simp [he]
      rw [hd] at C4
      have HE := hide he
      clear hd he
      go_wp2_with fail
      refine C4.out.mono ?_
      rintro e w6 ⟨rfl, hb6⟩
      have HS6 := hide (HS5.out.below hb6)
      clear hb6 HS5 C4
      go_wp2_with fail
      go_ret2
      exact ⟨A, c, l, rfl, HRN.out, HL.out.trans HE.out, HS6.out.sub (by simp)⟩
    · have hd : decide (l5 = l) = false := by simp [he]
      rw [hd] at C4
      have HLS2 := hide (HLS.out he)
      clear hd he HLS
      go_wp2_with fail
      refine C4.out.mono ?_
      rintro e w6 ⟨rfl, hb6⟩
      have HS6 := hide (HS5.out.below hb6)
      clear hb6 HS5 C4
      go_wp2_with fail
      go_roundg (mu gs roots nO u l5)
      case measure => rw [HK.out]; exact HLS2.out
      case rel => exact ⟨l5, A5, c5, rfl, rfl, HRN2, HD2, HS6.out.sub (by simp)⟩

section
variable (w : World) (AO AR : Option Addr) (nO cO nR cR : Nat) (obs : List Ob) (roots : List Val)
set_option maxRecDepth 100000 in
set_option maxHeartbeats 8000000 in
theorem least_bad (hO : ObsRd w (fun _ => True) AO nO obs) (hR : Rd w (fun _ => True) 2 AR nR (vals roots)) (hz : gcheck nO nR obs roots ≠ 0) :
    Calls Try.prog 38 #[.agg #[.slice AO nO cO, .slice AR nR cR]] w fun e w' => e = .returned (.tuple #[.slice none 0 0, .int .i64 (gcheck nO nR obs roots)]) ∧ Below w.heap.size w w' := by
  have hB0 : Below w.heap.size w (w.alloc (.cells #[.slice AO nO cO, .slice AR nR cR] 25)) := (Below.refl _ w).alloc (Nat.le_refl _) _
  have C1 := hide (settle_bad _ 0 AO AR nO cO nR cR obs roots (hO.below hB0) (hR.below hB0) hz)
  have HB0 := hide hB0
  obtain ⟨a1, a2, a3⟩ := (Blk.new w 25 #[.slice AO nO cO, .slice AR nR cR]).rules
  clear hz hB0
  go_enter Try.func38, Try.ntmps38
  go_wp2_with fail
  refine C1.out.mono ?_
  rintro e w1 ⟨rfl, hb1⟩
  go_wp2_with fail
  go_ret2
  exact ⟨rfl, HB0.out.trans (hb1.mono HB0.out.size)⟩
set_option maxRecDepth 100000 in
set_option maxHeartbeats 8000000 in
theorem greatest_bad (hO : ObsRd w (fun _ => True) AO nO obs) (hR : Rd w (fun _ => True) 2 AR nR (vals roots)) (hz : gcheck nO nR obs roots ≠ 0) :
    Calls Try.prog 39 #[.agg #[.slice AO nO cO, .slice AR nR cR]] w fun e w' => e = .returned (.tuple #[.slice none 0 0, .int .i64 (gcheck nO nR obs roots)]) ∧ Below w.heap.size w w' := by
  have hB0 : Below w.heap.size w (w.alloc (.cells #[.slice AO nO cO, .slice AR nR cR] 25)) := (Below.refl _ w).alloc (Nat.le_refl _) _
  have C1 := hide (settle_bad _ 1 AO AR nO cO nR cR obs roots (hO.below hB0) (hR.below hB0) hz)
  have HB0 := hide hB0
  obtain ⟨a1, a2, a3⟩ := (Blk.new w 25 #[.slice AO nO cO, .slice AR nR cR]).rules
  clear hz hB0
  go_enter Try.func39, Try.ntmps39
  go_wp2_with fail
  refine C1.out.mono ?_
  rintro e w1 ⟨rfl, hb1⟩
  go_wp2_with fail
  go_ret2
  exact ⟨rfl, HB0.out.trans (hb1.mono HB0.out.size)⟩
set_option maxRecDepth 100000 in
set_option maxHeartbeats 8000000 in
theorem least_ok (gs : List (List Val)) (h3 : obs.map Ob.fields = gs) (hO : ObsRd w (fun _ => True) AO nO obs) (hR : Rd w (fun _ => True) 2 AR nR (vals roots)) (hz : gcheck nO nR obs roots = 0) :
    Calls Try.prog 38 #[.agg #[.slice AO nO cO, .slice AR nR cR]] w fun e w' => ∃ A c, e = .returned (.tuple #[.slice A nO c, .int .i64 0]) ∧ Sep No w w' [rowI 3 1 A nO c (ints (ptl gs roots nO fun x => decide ((x : Int) ∈ reachR gs roots)))] := by
  have hG := gok_of hO hz
  have hgl : gs.length = nO := by rw [← h3]; exact hG.len
  have hS0 := (Sep.nil No w).blkAt 25 #[.slice AO nO cO, .slice AR nR cR] rfl
  obtain ⟨a1, a2, a3, a4⟩ := hS0.rules 0 (g := w.heap.size) (t := 25) rfl
  have C1 := hide (settle_ok _ 0 true AO AR nO cO nR cR obs roots gs h3 (hO.below hS0.below_) (hR.below hS0.below_) hz Dir.least)
  have HFIN := hide (fun (l : List Int) (h : Ran gs roots nO 0 l) (hf : ptl gs roots nO (sp l) = l) => least_is hgl (fun x => by have := fieldsI_ok (x := x) hG.vg; rw [hG.len, h3] at this; exact this) (by have := hG.vg; rw [h3] at this; exact this) (by have := hG.vr; rw [hG.len] at this; exact this) h hf)
  have HS0 := hide hS0
  clear hS0 hz a4 hG hgl h3 hO hR
  go_enter Try.func38, Try.ntmps38
  go_wp2_with fail
  refine C1.out.mono ?_
  rintro e w1 ⟨A, c, l, rfl, hl1, hl2, hP⟩
  obtain rfl := HFIN.out l hl1 hl2
  have HS1 := hide (sepNewR HS0.out hP)
  clear hP hl1 hl2
  go_wp2_with fail
  go_ret2
  exact ⟨A, c, rfl, HS1.out.sub (by simp)⟩
set_option maxRecDepth 100000 in
set_option maxHeartbeats 8000000 in
theorem greatest_ok (gs : List (List Val)) (h3 : obs.map Ob.fields = gs) (hO : ObsRd w (fun _ => True) AO nO obs) (hR : Rd w (fun _ => True) 2 AR nR (vals roots)) (hz : gcheck nO nR obs roots = 0) :
    Calls Try.prog 39 #[.agg #[.slice AO nO cO, .slice AR nR cR]] w fun e w' => ∃ A c l, e = .returned (.tuple #[.slice A nO c, .int .i64 0]) ∧ (∀ p, Gst gs roots nO p → l = ptl gs roots nO p) ∧ Sep No w w' [rowI 3 1 A nO c (ints l)] := by
  have hS0 := (Sep.nil No w).blkAt 25 #[.slice AO nO cO, .slice AR nR cR] rfl
  obtain ⟨a1, a2, a3, a4⟩ := hS0.rules 0 (g := w.heap.size) (t := 25) rfl
  have C1 := hide (settle_ok _ 1 false AO AR nO cO nR cR obs roots gs h3 (hO.below hS0.below_) (hR.below hS0.below_) hz Dir.greatest)
  have HS0 := hide hS0
  clear hS0 hz a4 h3 hO hR
  go_enter Try.func39, Try.ntmps39
  go_wp2_with fail
  refine C1.out.mono ?_
  rintro e w1 ⟨A, c, l, rfl, hl1, hl2, hP⟩
  have HFIN := hide (fun (p : Nat → Bool) (hp : Gst gs roots nO p) => hp.is hl1 hl2)
  have HS1 := hide (sepNewR HS0.out hP)
  clear hP hl1 hl2
  go_wp2_with fail
  go_ret2
  exact ⟨A, c, l, rfl, HFIN.out, HS1.out.sub (by simp)⟩
set_option maxRecDepth 100000 in
set_option maxHeartbeats 8000000 in
theorem solves_bad (AC : Option Addr) (nC cC : Nat) (hO : ObsRd w (fun _ => True) AO nO obs) (hR : Rd w (fun _ => True) 2 AR nR (vals roots)) (hz : gcheck nO nR obs roots ≠ 0) :
    Calls Try.prog 37 #[.agg #[.slice AO nO cO, .slice AR nR cR], .slice AC nC cC] w fun e w' => e = .returned (.tuple #[.bool false, .int .i64 (gcheck nO nR obs roots)]) ∧ Below w.heap.size w w' := by
  have hB0 : Below w.heap.size w (w.alloc (.cells #[.slice AO nO cO, .slice AR nR cR] 25)) := (Below.refl _ w).alloc (Nat.le_refl _) _
  have C1 := hide (graphCheck_any _ AO AR nO cO nR cR obs roots (hO.below hB0) (hR.below hB0))
  obtain ⟨x, hx⟩ : ∃ x, gcheck nO nR obs roots = x := ⟨_, rfl⟩
  rw [hx] at C1 hz ⊢
  have y1 : (x != 0) = true := by rw [bne_iff_ne]; exact hz
  have HB0 := hide hB0
  obtain ⟨a1, a2, a3⟩ := (Blk.new w 25 #[.slice AO nO cO, .slice AR nR cR]).rules
  clear hz hx hB0
  go_enter Try.func37, Try.ntmps37
  go_wp2_with fail
  refine C1.out.mono ?_
  rintro e w1 ⟨rfl, hb1⟩
  go_wp2_with fail
  go_ret2
  exact ⟨rfl, HB0.out.trans (hb1.mono HB0.out.size)⟩
set_option maxRecDepth 100000 in
set_option maxHeartbeats 8000000 in
theorem solves_arg (AC : Option Addr) (nC cC : Nat) (hO : ObsRd w (fun _ => True) AO nO obs) (hR : Rd w (fun _ => True) 2 AR nR (vals roots)) (hz : gcheck nO nR obs roots = 0) (hne : nC ≠ nO) :
    Calls Try.prog 37 #[.agg #[.slice AO nO cO, .slice AR nR cR], .slice AC nC cC] w fun e w' => e = .returned (.tuple #[.bool false, .int .i64 2]) ∧ Below w.heap.size w w' := by
  have hS0 := (Sep.nil No w).blkAt 25 #[.slice AO nO cO, .slice AR nR cR] rfl
  obtain ⟨a1, a2, a3, a4⟩ := hS0.rules 0 (g := w.heap.size) (t := 25) rfl
  have C1 := hide (graphCheck_any _ AO AR nO cO nR cR obs roots (hO.below hS0.below_) (hR.below hS0.below_))
  rw [hz] at C1
  have HS0 := hide hS0
  have y1 : ((nC : Int) != (nO : Int)) = true := by rw [bne_iff_ne]; omega
  have y2 : (nC != nO) = true := by rw [bne_iff_ne]; omega
  clear hz hS0 a4
  go_enter Try.func37, Try.ntmps37
  go_wp2_with fail
  refine C1.out.mono ?_
  rintro e w1 ⟨rfl, hb1⟩
  have hS1 := HS0.out.below hb1
  obtain ⟨b1, b2, b3, b4⟩ := hS1.rules 0 (g := w.heap.size) (t := 25) rfl
  have b5 := b1 0
  have HB1 := hide hS1.below_
  clear hb1 hS1 HS0 C1 a1 a2 a3 b1 b4
  go_wp2_with fail
  go_ret2
  exact ⟨rfl, HB1.out⟩
set_option maxRecDepth 100000 in
set_option maxHeartbeats 8000000 in
theorem solves_ok (gs : List (List Val)) (AC : Option Addr) (cC : Nat) (cs : List Int) (h3 : obs.map Ob.fields = gs) (hO : ObsRd w (fun _ => True) AO nO obs) (hR : Rd w (fun _ => True) 2 AR nR (vals roots)) (hC : Rd w (fun _ => True) 1 AC nO (ints cs)) (hz : gcheck nO nR obs roots = 0) :
    Calls Try.prog 37 #[.agg #[.slice AO nO cO, .slice AR nR cR], .slice AC nO cC] w fun e w' => e = .returned (.tuple #[.bool (decide (ptl gs roots nO (sp cs) = cs)), .int .i64 0]) ∧ Below w.heap.size w w' := by
  have hG := gok_of hO hz
  have hn := hG.nO_
  have hS0 := (Sep.nil No w).blkAt 25 #[.slice AO nO cO, .slice AR nR cR] rfl
  obtain ⟨a1, a2, a3, a4⟩ := hS0.rules 0 (g := w.heap.size) (t := 25) rfl
  have C1 := hide (graphCheck_any _ AO AR nO cO nR cR obs roots (hO.below hS0.below_) (hR.below hS0.below_))
  rw [hz] at C1
  have CC := hide (fun (w' : World) (hb : Below w.heap.size w w') => counted_any w' AO AR AC nO cO nR cR cC obs roots gs cs h3 (hO.below hb) (hR.below hb) (hC.below hb) hG)
  have HC := hide hC
  have HS0 := hide hS0
  clear hz hS0 a4 hO hR hG h3 hC
  go_enter Try.func37, Try.ntmps37
  go_wp2_with fail
  refine C1.out.mono ?_
  rintro e w1 ⟨rfl, hb1⟩
  have hS1 := HS0.out.below hb1
  obtain ⟨b1, b2, b3, b4⟩ := hS1.rules 0 (g := w.heap.size) (t := 25) rfl
  have b5 := (b1 0).trans (show _ = some (.slice AO nO cO) from rfl)
  have b6 := (b1 1).trans (show _ = some (.slice AR nR cR) from rfl)
  have C3 := hide (CC.out w1 hS1.below_)
  have HS1 := hide hS1
  clear hb1 hS1 HS0 C1 a1 a2 a3 b1 b4
  go_wp2_with fail
  refine C3.out.mono ?_
  rintro e w5 ⟨A5, c5, l5, rfl, hl5, hP5⟩
  obtain rfl : l5 = ptl gs roots nO (sp cs) := hl5.eq
  have hS5 := sepNewR HS1.out hP5
  have C4 := hide (eqInts_any w5 _ _ A5 AC nO nO c5 cC (ptl gs roots nO (sp cs)) cs (by omega) (by omega) (hS5.rd_ 1 rfl) (HC.out.below hS5.below_))
  obtain ⟨b, hb⟩ : ∃ b, decide (ptl gs roots nO (sp cs) = cs) = b := ⟨_, rfl⟩
  rw [hb] at C4
  have HB := hide hb
  have HB5 := hide hS5.below_
  clear hl5 hP5 hS5 HS1 C3 b2 b3 b5 b6 hb
  go_wp2_with fail
  refine C4.out.mono ?_
  rintro e w6 ⟨rfl, hb6⟩
  go_wp2_with fail
  go_ret2
  exact ⟨by rw [HB.out]; rfl, HB5.out.trans (hb6.mono HB5.out.size)⟩
end
end Go.Proofs.Ytaajkldhnjoicaa

namespace Go.Proofs.Ytaajkldhnjoicaa
open Go.RowKit

theorem cnt_tgts_snoc (vs : List Val) (v : Val) (j : Int) : cnt (tgts (vs ++ [v])) j = cnt (tgts vs) j + if v.1 = true ∧ v.2 = j then 1 else 0 := by
  rw [tgts_snoc]
  obtain ⟨b, m⟩ := v
  cases b with
  | false => simp
  | true =>
    dsimp only
    rw [if_pos rfl, cnt_snoc]
    simp
theorem cnt_take_le (vs : List Val) (k : Nat) (j : Int) : 0 ≤ cnt (tgts (vs.take k)) j ∧ cnt (tgts (vs.take k)) j ≤ (vs.length : Int) := by
  have h1 := cnt_nonneg (tgts (vs.take k)) j
  have h2 := cnt_le (tgts (vs.take k)) j
  have h3 := tgts_len (vs.take k)
  have h4 : (vs.take k).length ≤ vs.length := by rw [List.length_take]; omega
  omega
def ptk (gs : List (List Val)) (vs : List Val) (bs : List Bool) (j : Nat) (k : Nat) : Int := cnt (tgts vs) j + sumN (fun x => if bs.getD x false = true then cnt (tgts (fieldsI gs (x : Int))) j else 0) k
theorem ptk_bnd (gs : List (List Val)) (vs : List Val) (bs : List Bool) (j k : Nat) (hk : k ≤ 24) (hv : vs.length ≤ 8) (hf : ∀ x : Int, (fieldsI gs x).length ≤ 4) : 0 ≤ ptk gs vs bs j k ∧ ptk gs vs bs j k ≤ 104 := by
  have h1 := cnt_nonneg (tgts vs) j
  have h2 := cnt_le (tgts vs) j
  have h3 := tgts_len vs
  have h4 : 0 ≤ sumN (fun x => if bs.getD x false = true then cnt (tgts (fieldsI gs (x : Int))) j else 0) k := sumN_nonneg fun x _ => by
    have := cnt_nonneg (tgts (fieldsI gs (x : Int))) j
    split <;> omega
  have h5 : sumN (fun x => if bs.getD x false = true then cnt (tgts (fieldsI gs (x : Int))) j else 0) k ≤ 4 * (k : Int) := sumN_le 4 fun x _ => by
    have h1 := cnt_le (tgts (fieldsI gs (x : Int))) j
    have h2 := tgts_len (fieldsI gs (x : Int))
    have h3 := hf x
    split <;> omega
  unfold ptk
  omega

theorem ob_at2 {w w' : World} {D : Nat → Prop} {AO : Option Addr} {nO : Nat} {obs : List Ob} (hO : ObsRd w D AO nO obs) (hb : Below w.heap.size w w') {gs : List (List Val)} (h3 : obs.map Ob.fields = gs) (hfl : ∀ o ∈ obs, o.n ≤ 4) {i : Nat} (hi : i < nO) :
    ∃ (ad : Addr) (o : Ob), AO = some ad ∧ ad.block < w'.heap.size ∧ w'.cell? (ad.add i) = some (.slice o.A o.n o.c) ∧ Rd w D 2 o.A o.n (vals o.fields) ∧ fieldsI gs (i : Int) = o.fields ∧ o.n ≤ 4 ∧ o.fields.length = o.n := by
  have hil : i < obs.length := by rw [hO.len]; exact hi
  obtain ⟨ad, hA, hd, had, hc⟩ := (hO.below hb).row.at_ hi
  refine ⟨ad, obs[i], hA, had, hc _ (by simp [List.getElem?_eq_getElem hil, Ob.val]), hO.each _ (List.getElem_mem hil), ?_, hfl _ (List.getElem_mem hil), hO.flen (List.getElem_mem hil)⟩
  unfold fieldsI
  rw [← h3, List.getD_eq_getElem?_getD]
  simp [List.getElem?_eq_getElem hil]

set_option maxRecDepth 100000 in
set_option maxHeartbeats 8000000 in
theorem pointed_any (w : World) (AO AR AT : Option Addr) (nO cO nR cR cT : Nat) (obs : List Ob) (roots : List Val) (gs : List (List Val)) (bs : List Bool) (j : Nat) (h3 : obs.map Ob.fields = gs) (hO : ObsRd w (fun _ => True) AO nO obs) (hR : Rd w (fun _ => True) 2 AR nR (vals roots)) (hT : Rd w (fun _ => True) 1 AT nO (bls bs)) (hG : GOk nO nR obs roots) :
    Calls Try.prog 97 #[.agg #[.slice AO nO cO, .slice AR nR cR], .slice AT nO cT, .int .i64 j] w fun e w' => e = .returned (.int .i64 (pt gs roots nO (fun x => bs.getD x false) j)) ∧ Below w.heap.size w w' := by
  have hn := hG.nO_
  have hnR := hG.nR_
  have hS0 := (Sep.nil No w).blkAt 25 #[.slice AO nO cO, .slice AR nR cR] rfl
  obtain ⟨a1, a2, a3, a4⟩ := hS0.rules 0 (g := w.heap.size) (t := 25) rfl
  have a5 := a1 0
  have a6 := a1 1
  have HL := hide (roots_len hR)
  have HBL := hide (show bs.length = nO by have := hT.1; simpa [bls] using this)
  have HF4 := hide (show ∀ x : Int, (fieldsI gs x).length ≤ 4 from fun x => by rw [← h3]; exact fields_le hG.fs x)
  have HFL := hide hG.fl
  have H3 := hide h3
  have HO := hide hO
  have HR := hide hR
  have HT := hide hT
  have HS0 := hide hS0
  clear hS0 a1 a4 hO hR hT hG h3
  go_enter Try.func97, Try.ntmps97
  go_wp2_with fail
  go_loopw [7, 16] (fun s7 s wr => ∃ (k : Nat) (c : Int), k ≤ nR ∧ s = .int .i64 k ∧ s7 = .int .i64 c ∧ Hid (c = cnt (tgts (roots.take k)) j) ∧ Sep No w wr [blkI w.heap.size 25 #[.slice AO nO cO, .slice AR nR cR]]) (fun _ s _ => nR - (intOf s).toNat)
  case atStart => exact ⟨0, 0, by omega, rfl, rfl, (by simp [Hid, tgts, cnt]), HS0.out⟩
  case round =>
    clear HS0
    obtain ⟨k, c, hk, rfl, rfl, HC, hS⟩ := hrel
    obtain ⟨x1, x2, x3, x4⟩ := hS.rules 0 (g := w.heap.size) (t := 25) rfl
    have x5 := x1 0
    by_cases hlt : k < nR
    · have hkl : k < roots.length := by rw [HL.out]; exact hlt
      obtain ⟨ad, hA, _, had, hc, hd⟩ := (HR.out.below hS.below_).atN hlt
      obtain ⟨v0, v1⟩ := vals_at roots k hkl
      have e0 := hc _ v0
      have e1 := hd 0 _ v1
      have HTK := hide (List.take_succ_eq_append_getElem hkl)
      obtain ⟨hb0, hb1⟩ := cnt_take_le roots k j
      rw [← HC.out, HL.out] at hb1
      rw [← HC.out] at hb0
      obtain ⟨x, hx⟩ : ∃ x, roots[k] = x := ⟨_, rfl⟩
      rw [hx] at e0 e1 HTK
      subst hA
      have HS := hide hS
      clear hc hd v0 v1 hx hS x1 x4
      obtain ⟨b, m⟩ := x
      dsimp only at e0 e1
      cases b with
      | false =>
        have HX := hide (show c = cnt (tgts (roots.take (k + 1))) j from by rw [HTK.out, cnt_tgts_snoc, ← HC.out]; simp)
        clear HC HTK
        go_wp2_with fail
        go_roundw
        case rel => exact ⟨k + 1, c, by omega, by go_num, rfl, HX, HS.out.alloc _⟩
        case measure => simp [intOf]; omega
      | true =>
        cases hq : (m == (j : Int)) with
        | true =>
          have HX := hide (show c + 1 = cnt (tgts (roots.take (k + 1))) j from by rw [HTK.out, cnt_tgts_snoc, ← HC.out, if_pos ⟨rfl, by simpa using hq⟩])
          clear HC HTK
          go_wp2_with fail
          go_roundw
          case rel => exact ⟨k + 1, c + 1, by omega, by go_num, by go_num, HX, HS.out.alloc _⟩
          case measure => simp [intOf]; omega
        | false =>
          have HX := hide (show c = cnt (tgts (roots.take (k + 1))) j from by rw [HTK.out, cnt_tgts_snoc, ← HC.out, if_neg (fun h => by have h2 : m = (j : Int) := h.2; simp [h2] at hq)]; simp)
          clear HC HTK
          go_wp2_with fail
          go_roundw
          case rel => exact ⟨k + 1, c, by omega, by go_num, rfl, HX, HS.out.alloc _⟩
          case measure => simp [intOf]; omega
    · have HC2 := hide (show c = ptk gs roots bs j 0 from by
        have h1 := HC.out
        rw [List.take_of_length_le (by rw [HL.out]; omega)] at h1
        exact h1.trans (Int.add_zero _).symm)
      have HS := hide hS
      have HRL8 := hide (show roots.length ≤ 8 from by rw [HL.out]; omega)
      clear hS HC x1 x4 HL
      go_wp2_with fail
      go_loopw [7, 10] (fun s7 s wr => ∃ (I : Nat) (c : Int), I ≤ nO ∧ s = .int .i64 I ∧ s7 = .int .i64 c ∧ Hid (c = ptk gs roots bs j I) ∧ Sep No w wr [blkI w.heap.size 25 #[.slice AO nO cO, .slice AR nR cR]]) (fun _ s _ => nO - (intOf s).toNat)
      case atStart => exact ⟨0, c, by omega, rfl, rfl, HC2, HS.out⟩
      case round =>
        clear HS HC2 x2 x3 x5
        obtain ⟨I, c, hI, rfl, rfl, HC, hS⟩ := hrel
        obtain ⟨x1, x2, x3, x4⟩ := hS.rules 0 (g := w.heap.size) (t := 25) rfl
        have x5 := x1 0
        by_cases hlI : I < nO
        · obtain ⟨ad, o, hAO, had, e0, hrd, hfi, ho4, hofl⟩ := ob_at2 HO.out hS.below_ H3.out HFL.out hlI
          obtain ⟨y, hy⟩ : ∃ y, bs.getD I false = y := ⟨_, rfl⟩
          have HY := hide hy
          have HFI := hide hfi
          have HOL := hide hofl
          have HRD := hide hrd
          subst hAO
          have HS := hide hS
          have HC1 := hide (show c = ptk gs roots bs j I + (if y = true then cnt (tgts (o.fields.take 0)) j else 0) from HC.out.trans (by rw [List.take_zero]; cases y <;> simp [tgts, cnt]))
          clear hS hrd hfi hy HC x1 x4 hofl
          go_wp2_with fail
          go_loopw [7, 45] (fun s7 s wr => ∃ (K : Nat) (c : Int), K ≤ o.n ∧ s = .int .i64 K ∧ s7 = .int .i64 c ∧ Hid (c = ptk gs roots bs j I + (if y = true then cnt (tgts (o.fields.take K)) j else 0)) ∧ Sep No w wr [blkI w.heap.size 25 #[.slice (some ad) nO cO, .slice AR nR cR]]) (fun _ s _ => o.n - (intOf s).toNat)
          case atStart => exact ⟨0, c, by omega, rfl, rfl, HC1, HS.out⟩
          case round =>
            clear HS HC1 x2 x3 x5 e0 had
            obtain ⟨K, c, hK, rfl, rfl, HC, hS⟩ := hrel
            obtain ⟨hb0, hb1⟩ := ptk_bnd gs roots bs j I (by omega) HRL8.out HF4.out
            have hb4 : 0 ≤ (if y = true then cnt (tgts (o.fields.take K)) j else 0) ∧ (if y = true then cnt (tgts (o.fields.take K)) j else 0) ≤ 4 := by
              have := cnt_take_le o.fields K j
              rw [HOL.out] at this
              split <;> omega
            have hb5 : 0 ≤ c ∧ c ≤ 108 := by rw [HC.out]; omega
            obtain ⟨hb6, hb7⟩ := hb5
            clear hb0 hb1 hb4
            by_cases hlK : K < o.n
            · have hkl : K < o.fields.length := by rw [HOL.out]; exact hlK
              obtain ⟨bd, hBT, _, hbd, hbc⟩ := (HT.out.below hS.below_).at_ hlI
              have e2 := hbc _ (bls_get bs I (by rw [HBL.out]; exact hlI))
              rw [HY.out] at e2
              obtain ⟨fd, hA, _, hfd, hc, hd⟩ := (HRD.out.below hS.below_).atN hlK
              obtain ⟨v0, v1⟩ := vals_at o.fields K hkl
              have e0 := hc _ v0
              have e1 := hd 0 _ v1
              have HTK := hide (List.take_succ_eq_append_getElem hkl)
              obtain ⟨x, hx⟩ : ∃ x, o.fields[K] = x := ⟨_, rfl⟩
              rw [hx] at e0 e1 HTK
              rw [hA]
              have HA := hide hA
              subst hBT
              have HS := hide hS
              clear hc hd v0 v1 hx hS hbc hA
              obtain ⟨b, m⟩ := x
              dsimp only at e0 e1
              have hbd9 : (bd.add I).block < wr.heap.size := by
                simp only [Addr.add]
                split <;> exact hbd
              have e3 : (wr.alloc (.cells #[.bool b, .int .i64 m] 86)).cell? (bd.add I) = some (.bool y) := (World.cell?_alloc_lt wr _ (bd.add I) hbd9).trans e2
              cases y with
              | false =>
                have HX := hide (show c = ptk gs roots bs j I + (if false = true then cnt (tgts (o.fields.take (K + 1))) j else 0) from by rw [HC.out]; simp)
                clear HC HTK
                go_wp2_with fail
                go_roundw
                case rel => exact ⟨K + 1, c, by omega, by go_num, rfl, HX, HS.out.alloc _⟩
                case measure => simp [intOf]; omega
              | true =>
                cases b with
                | false =>
                  have HX := hide (show c = ptk gs roots bs j I + (if true = true then cnt (tgts (o.fields.take (K + 1))) j else 0) from by rw [HTK.out, cnt_tgts_snoc, HC.out]; simp)
                  clear HC HTK
                  go_wp2_with fail
                  go_roundw
                  case rel => exact ⟨K + 1, c, by omega, by go_num, rfl, HX, HS.out.alloc _⟩
                  case measure => simp [intOf]; omega
                | true =>
                  cases hq : (m == (j : Int)) with
                  | true =>
                    have HX := hide (show c + 1 = ptk gs roots bs j I + (if true = true then cnt (tgts (o.fields.take (K + 1))) j else 0) from by rw [HTK.out, cnt_tgts_snoc, HC.out, if_pos rfl, if_pos rfl, if_pos ⟨rfl, by simpa using hq⟩, Int.add_assoc])
                    clear HC HTK
                    go_wp2_with fail
                    go_roundw
                    case rel => exact ⟨K + 1, c + 1, by omega, by go_num, by go_num, HX, HS.out.alloc _⟩
                    case measure => simp [intOf]; omega
                  | false =>
                    have HX := hide (show c = ptk gs roots bs j I + (if true = true then cnt (tgts (o.fields.take (K + 1))) j else 0) from by rw [HTK.out, cnt_tgts_snoc, HC.out, if_pos rfl, if_pos rfl, if_neg (fun h => by have h2 : m = (j : Int) := h.2; simp [h2] at hq)]; simp)
                    clear HC HTK
                    go_wp2_with fail
                    go_roundw
                    case rel => exact ⟨K + 1, c, by omega, by go_num, rfl, HX, HS.out.alloc _⟩
                    case measure => simp [intOf]; omega
            · have HX := hide (show c = ptk gs roots bs j (I + 1) from by
                rw [HC.out, List.take_of_length_le (by rw [HOL.out]; omega)]
                show _ = cnt (tgts roots) j + (sumN _ I + (if bs.getD I false = true then cnt (tgts (fieldsI gs (I : Int))) j else 0))
                rw [HY.out, HFI.out, ← Int.add_assoc]; rfl)
              have HS := hide hS
              clear hS HC
              go_wp2_with fail
              go_roundw
              case rel => exact ⟨I + 1, c, by omega, by go_num, rfl, HX, HS.out⟩
              case measure => simp [intOf]; omega
        · obtain rfl : I = nO := by omega
          have HB := hide hS.below_
          clear hS x1 x4
          go_wp2_with fail
          go_ret
          exact ⟨by rw [HC.out]; rfl, HB.out⟩
end Go.Proofs.Ytaajkldhnjoicaa
