/- The law ArenaTells: the walk. -/
import Derived.Test.YtpbafmdebflbpaaArnN
import Derived.Deep.RegionHeld3
namespace Go.Proofs.Ytpbafmdebflbpaa
open Go.RowKit

theorem graphOf_len {ws : List Int} {nW : Nat} (h : ∀ x ∈ ws, 0 ≤ x) (hl : ws.length = nW) (hn : nW ≤ 256) : (graphOf ws (parse nW ws 0).1).length ≤ 1000 ∧ ∀ fs ∈ graphOf ws (parse nW ws 0).1, fs.length ≤ 1000 := by
  constructor
  · have hp := parse_rise nW ws 0
    have hm := fun p hp => (parse_mem nW ws 0 p h hp).1
    unfold graphOf
    rw [List.length_map]
    generalize (parse nW ws 0).1 = l at *
    have key : ∀ (l : List (Nat × Nat)) (a : Nat), l.Pairwise (fun p q => p.1 < q.1) → (∀ p ∈ l, a ≤ p.1 ∧ p.1 < 256) → l.length + a ≤ 256 ∨ l = [] := by
      intro l
      induction l with
      | nil => intro a _ _; exact .inr rfl
      | cons p l ih =>
        intro a hp hb
        obtain ⟨h1, h2⟩ := List.pairwise_cons.1 hp
        have h3 := hb p (by simp)
        rcases ih (p.1 + 1) h2 (fun q hq => ⟨h1 q hq, (hb q (by simp [hq])).2⟩) with h4 | h4
        · left; simp only [List.length_cons]; omega
        · subst h4; left; simp only [List.length_cons, List.length_nil]; omega
    rcases key l 0 hp (fun p hp => ⟨Nat.zero_le _, by have := hm p hp; omega⟩) with h1 | h1
    · omega
    · subst h1; simp
  · intro fs hfs
    obtain ⟨p, hp, rfl⟩ := List.mem_map.1 hfs
    have hm := parse_mem nW ws 0 p h hp
    unfold fieldsAt
    rw [List.length_map, List.length_take, List.length_drop]
    omega

set_option maxRecDepth 100000 in
set_option maxHeartbeats 4000000 in
theorem arenaTells_walk (w : World) (AW AR : Option Addr) (nW cW nR cR : Nat) (ws rs : List Int) (hW : WsIn w AW nW cW ws) (hR : WsIn w AR nR cR rs) :
    Calls Try.prog 9 #[.agg #[.slice AW nW cW, .slice AR nR cR]] w fun e w' => e = .returned (.bool true) ∧ Below w.heap.size w w' := by
  have hB0 : Below w.heap.size w (w.alloc (.cells #[.slice AW nW cW, .slice AR nR cR] 55)) := (Below.refl _ w).alloc (Nat.le_refl _) _
  have bA := Blk.new w 55 #[.slice AW nW cW, .slice AR nR cR]
  have C1 := hide (arenaCheck_any _ AW AR nW cW nR cR ws rs (hW.below hB0) (hR.below hB0))
  have C2 := hide (fun w' (hb : Below w.heap.size w w') => starts_any w' AW AR nW cW nR cR ws rs (hW.below hb) (hR.below hb))
  have C3 := hide (fun w' (hb : Below w.heap.size w w') => read_any w' AW AR nW cW nR cR ws rs (hW.below hb) (hR.below hb))
  have C4 := hide (fun w' (hb : Below w.heap.size w w') => refAcheck_any w' AW AR nW cW nR cR ws rs (hW.below hb) (hR.below hb))
  have HB0 := hide hB0
  have BA := hide bA
  by_cases hz : acheck nW nR ws rs = 0
  · obtain ⟨h1, h2, h3, h4⟩ := acheck_zero hz
    have hgl := graphOf_len (fun x hx => (hW.wf x hx).1) hW.len h1
    have hrl := hR.len
    have C5 := hide (fun w' (hb : Below w.heap.size w w') => refStarts_any w' AW nW cW ws (hW.below hb) h1)
    have C6 := hide (fun w' (hb : Below w.heap.size w w') => refRead_any w' AW AR nW cW nR cR ws rs (hW.below hb) (hR.below hb) hz)
    rw [show startsOf nW ws = placesOf (parse nW ws 0).1 from if_pos h3, h3] at C5
    simp only [hz, if_true] at C1 C2 C3 C4
    obtain ⟨pre, hpre⟩ : ∃ pre, (parse nW ws 0).1 = pre := ⟨_, rfl⟩
    rw [hpre] at C5 hgl
    simp only [hpre] at C2 C3 C6
    obtain ⟨gs, hgs⟩ : ∃ gs, graphOf ws pre = gs := ⟨_, rfl⟩
    obtain ⟨vs, hvs⟩ : ∃ vs, rs.map (turnW (ixOf pre)) = vs := ⟨_, rfl⟩
    have hvl : vs.length ≤ 1000 := by rw [← hvs, List.length_map]; omega
    rw [hgs] at hgl
    simp only [hgs, hvs] at C3 C6
    have HGL := hide hgl
    have HVL := hide hvl
    clear h3 h4 hz hpre hgs hvs hgl hvl hrl h1 h2 hW hR hB0 bA
    go_enter Try.func9, Try.ntmps9
    go_wp2_with fail
    refine C1.out.mono ?_
    rintro e w1 ⟨rfl, hb1⟩
    have bA1 := BA.out.below_ hb1
    have hB1 := HB0.out.trans (hb1.mono (by simp))
    obtain ⟨a1, a2, a3⟩ := bA1.rules
    have HB1 := hide hB1
    have BA1 := hide bA1
    clear hb1 hB1 bA1 HB0 BA C1
    go_wp2_with fail
    refine (C2.out _ HB1.out).mono ?_
    rintro e w2 ⟨A, n, c, rfl, hn, hP2⟩
    have bA2 := BA1.out.below_ hP2.below_
    have hB2 := HB1.out.trans (hP2.below_.mono HB1.out.size)
    clear a1 a2 a3
    obtain ⟨a1, a2, a3⟩ := bA2.rules
    have HB2 := hide hB2
    have BA2 := hide bA2
    clear hB2 bA2 HB1 BA1 C2
    go_wp2_with fail
    refine (C3.out _ HB2.out).mono ?_
    rintro e w3 ⟨v, rfl, hb3, hG3⟩
    obtain ⟨AO, nO, cO, Ar, nr, cr, obs, rfl, g1, g2, g3⟩ := hG3.ex
    have bA3 := (BA2.out.below_ hb3).alloc (.cells #[.slice AO nO cO, .slice Ar nr cr] 52)
    have hB3 := (HB2.out.trans (hb3.mono HB2.out.size))
    have hB3' := hB3.alloc hB3.size (.cells #[.slice AO nO cO, .slice Ar nr cr] 52)
    have bG3 := Blk.new w3 52 #[.slice AO nO cO, .slice Ar nr cr]
    have hR3 : Rd (w3.alloc (.cells #[.slice AO nO cO, .slice Ar nr cr] 52)) (fun _ => True) 1 A n (ints (placesOf pre)) := ((hP2.rd_ 0 rfl).below hb3).below ((Below.refl _ w3).alloc (Nat.le_refl _) _)
    have hG3' : GraphRd (w3.alloc (.cells #[.slice AO nO cO, .slice Ar nr cr] 52)) (fun _ => True) (.agg #[.slice AO nO cO, .slice Ar nr cr]) gs vs := GraphRd.below ⟨AO, nO, cO, Ar, nr, cr, obs, rfl, g1.more (fun _ _ _ => trivial), g2, g3.more (fun _ _ _ => trivial)⟩ ((Below.refl _ w3).alloc (Nat.le_refl _) _)
    clear a1 a2 a3
    obtain ⟨a1, a2, a3⟩ := bA3.rules
    have HB3 := hide hB3'
    have BA3 := hide bA3
    have BG3 := hide bG3
    have HR3 := hide hR3
    have HG3 := hide hG3'
    clear hB3 hB3' bA3 bG3 HB2 BA2 C3 hP2 hb3 hG3 g1 g2 g3 hR3 hG3'
    go_wp2_with fail
    refine (C4.out _ HB3.out).mono ?_
    rintro e w4 ⟨rfl, hb4⟩
    have bA4 := BA3.out.below_ hb4
    have bG4 := BG3.out.below_ hb4
    have hB4 := HB3.out.trans (hb4.mono HB3.out.size)
    have hR4 := HR3.out.below hb4
    have hG4 := HG3.out.below hb4
    clear a1 a2 a3
    obtain ⟨a1, a2, a3⟩ := bA4.rules
    have HB4 := hide hB4
    have BA4 := hide bA4
    have BG4 := hide bG4
    have HR4 := hide hR4
    have HG4 := hide hG4
    clear hb4 hB4 bA4 bG4 HB3 BA3 BG3 C4 hR4 hG4 HR3 HG3
    go_wp2_with fail
    refine (C5.out _ HB4.out).mono ?_
    rintro e w5 ⟨As, ns, cs, rfl, hns, hP5⟩
    have bA5 := BA4.out.below_ hP5.below_
    have bG5 := BG4.out.below_ hP5.below_
    have hB5 := HB4.out.trans (hP5.below_.mono HB4.out.size)
    have hR5 := HR4.out.below hP5.below_
    have hR5' := hP5.rd_ 0 rfl
    have hG5 := HG4.out.below hP5.below_
    have hnn : ns = n := by have h1 := hR5.1; have h2 := hR5'.1; omega
    subst hnn
    have a5 : w5.cell? ⟨w.heap.size, 0, none⟩ = some (.slice AW nW cW) := by rw [bA5.cell]; rfl
    have a6 : w5.cell? ⟨w.heap.size, 1, none⟩ = some (.slice AR nR cR) := by rw [bA5.cell]; rfl
    have a7 : w5.cell? ⟨w3.heap.size, 0, none⟩ = some (.slice AO nO cO) := by rw [bG5.cell]; rfl
    have a8 : w5.cell? ⟨w3.heap.size, 1, none⟩ = some (.slice Ar nr cr) := by rw [bG5.cell]; rfl
    have HB5 := hide hB5
    have BA5 := hide bA5
    have BG5 := hide bG5
    have HR5 := hide hR5
    have HR5' := hide hR5'
    have HG5 := hide hG5
    clear hP5 hB5 bA5 bG5 HB4 BA4 BG4 C5 hR5 hR5' hG5 HR4 HG4 a1 a2 a3
    go_wp2_with fail
    go_region_law (first
      | (try go_simp
         go_at_call 41
         refine (ints_same w5.drew _ _ A As ns c cs (placesOf pre) (by omega) (HR5.out.keep (Nat.le_refl _) (fun _ _ _ => rfl)) (HR5'.out.keep (Nat.le_refl _) (fun _ _ _ => rfl))).mono ?_
         rintro e w6 ⟨rfl, hb6⟩
         have hB6 := HB5.out.drew.trans (hb6.mono HB5.out.size)
         have bA6 := BA5.out.drew.below_ hb6
         have bG6 := BG5.out.drew.below_ hb6
         (have hG6 : GraphRd w6 (fun _ => True) (.agg #[.slice AO nO cO, .slice Ar nr cr]) gs vs := HG5.out.below ((Below.refl _ w5).drew.trans hb6))
         (have d5 : w6.cell? ⟨w.heap.size, 0, none⟩ = some (.slice AW nW cW) := by rw [bA6.cell]; rfl)
         (have d6 : w6.cell? ⟨w.heap.size, 1, none⟩ = some (.slice AR nR cR) := by rw [bA6.cell]; rfl)
         (have d7 : w6.cell? ⟨w3.heap.size, 0, none⟩ = some (.slice AO nO cO) := by rw [bG6.cell]; rfl)
         (have d8 : w6.cell? ⟨w3.heap.size, 1, none⟩ = some (.slice Ar nr cr) := by rw [bG6.cell]; rfl))
      | (try go_simp
         go_at_call 42
         refine (C6.out w6 hB6).mono ?_
         rintro e w7 ⟨v7, rfl, hb7, hG7⟩
         have hB7 := hB6.trans (hb7.mono hB6.size)
         have bG7 := bG6.below_ hb7
         have hG67 := hG6.below hb7
         (have f7 : w7.cell? ⟨w3.heap.size, 0, none⟩ = some (.slice AO nO cO) := by rw [bG7.cell]; rfl)
         (have f8 : w7.cell? ⟨w3.heap.size, 1, none⟩ = some (.slice Ar nr cr) := by rw [bG7.cell]; rfl))
      | (try go_simp
         go_at_call 39
         refine (graphs_any w7 _ _ _ _ gs vs HGL.out.2 HGL.out.1 HVL.out hG67 hG7).mono ?_
         rintro e w8 ⟨rfl, hb8⟩
         have hB8 := hB7.trans (hb8.mono hB7.size)))
    all_goals
      go_wp2_with fail
      go_ret
      exact ⟨rfl, hB8⟩
  · simp only [hz, if_false] at C2 C3
    obtain ⟨x, hx⟩ : ∃ x, acheck nW nR ws rs = x := ⟨_, rfl⟩
    simp only [hx] at C1 C2 C3 C4
    rw [hx] at hz
    have y1 : (x != 0) = true := by rw [bne_iff_ne]; exact hz
    have y2 : (x == 0) = false := by simp [hz]
    clear hz hx hW hR hB0 bA
    go_enter Try.func9, Try.ntmps9
    go_wp2_with fail
    refine C1.out.mono ?_
    rintro e w1 ⟨rfl, hb1⟩
    have bA1 := BA.out.below_ hb1
    have hB1 := HB0.out.trans (hb1.mono (by simp))
    obtain ⟨a1, a2, a3⟩ := bA1.rules
    have HB1 := hide hB1
    have BA1 := hide bA1
    clear hb1 hB1 bA1 HB0 BA C1
    go_wp2_with fail
    refine (C2.out _ HB1.out).mono ?_
    rintro e w2 ⟨A, n, c, rfl, hn, hP2⟩
    have bA2 := BA1.out.below_ hP2.below_
    have hB2 := HB1.out.trans (hP2.below_.mono HB1.out.size)
    have hn0 : n = 0 := by have := (hP2.rd_ 0 rfl).1; simp [ints] at this; omega
    subst hn0
    clear a1 a2 a3
    obtain ⟨a1, a2, a3⟩ := bA2.rules
    have HB2 := hide hB2
    have BA2 := hide bA2
    clear hB2 bA2 HB1 BA1 C2 hP2
    go_wp2_with fail
    refine (C3.out _ HB2.out).mono ?_
    rintro e w3 ⟨v, rfl, hb3, hG3⟩
    obtain ⟨AO, nO, cO, Ar, nr, cr, obs, rfl, g1, g2, g3⟩ := hG3.ex
    have bA3 := (BA2.out.below_ hb3).alloc (.cells #[.slice AO nO cO, .slice Ar nr cr] 52)
    have hB3 := (HB2.out.trans (hb3.mono HB2.out.size))
    have hB3' := hB3.alloc hB3.size (.cells #[.slice AO nO cO, .slice Ar nr cr] 52)
    have bG3 := Blk.new w3 52 #[.slice AO nO cO, .slice Ar nr cr]
    have hG3' : GraphRd (w3.alloc (.cells #[.slice AO nO cO, .slice Ar nr cr] 52)) (fun _ => True) (.agg #[.slice AO nO cO, .slice Ar nr cr]) [] [] := GraphRd.below ⟨AO, nO, cO, Ar, nr, cr, obs, rfl, g1.more (fun _ _ _ => trivial), g2, g3.more (fun _ _ _ => trivial)⟩ ((Below.refl _ w3).alloc (Nat.le_refl _) _)
    clear a1 a2 a3
    obtain ⟨a1, a2, a3⟩ := bA3.rules
    have HB3 := hide hB3'
    have BG3 := hide bG3
    have HG3 := hide hG3'
    clear hB3 hB3' bA3 bG3 HB2 BA2 C3 hb3 hG3 g1 g2 g3 hG3'
    go_wp2_with fail
    refine (C4.out _ HB3.out).mono ?_
    rintro e w4 ⟨rfl, hb4⟩
    have bG4 := BG3.out.below_ hb4
    have hB4 := HB3.out.trans (hb4.mono HB3.out.size)
    have hG4 := HG3.out.below hb4
    clear a1 a2 a3
    obtain ⟨a1, a2, a3⟩ := bG4.rules
    have HB4 := hide hB4
    have HG4 := hide hG4
    clear hb4 hB4 bG4 HB3 BG3 C4 hG4 HG3
    go_wp2_with fail
    refine (graphs_any w4 _ (fun _ => True) _ _ [] [] (by simp) (by simp) (by simp) HG4.out (GraphRd.nil _ _)).mono ?_
    rintro e w5 ⟨rfl, hb5⟩
    have hB5 := HB4.out.trans (hb5.mono HB4.out.size)
    have HB5 := hide hB5
    clear hB5 hb5 a1 a2 a3
    go_wp2_with fail
    go_ret
    exact ⟨rfl, HB5.out⟩
end Go.Proofs.Ytpbafmdebflbpaa
