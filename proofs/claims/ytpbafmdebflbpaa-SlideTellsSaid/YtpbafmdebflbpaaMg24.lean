/- slide: the law SlideTells: the walk. Arguments that are slices, opened to lists of cells. A slice of words that comes in, opened. -/
import Derived.Test.YtpbafmdebflbpaaMg23
import Derived.Test.YtpbafmdebflbpaaMg0
import Derived.Deep.Slices
import Derived.Deep.Fields
import Derived.ChangeSame
import Derived.Test.YtpbafmdebflbpaaMg5
namespace Go.Proofs.Ytpbafmdebflbpaa
open Go.RowKit Go.Maps

theorem doneS_len {ws : List Int} {pre : List (Nat × Nat)} {L : List Int} {l : List Int} (h : ∀ i ∈ l, (rawO ws pre 1 i).length = 1 + lenO pre i) : (l.flatMap (doneS ws pre L)).length = sumO pre l := by
  induction l with
  | nil => rfl
  | cons a l ih =>
    have h1 := h a (by simp)
    have h2 := ih (fun i hi => h i (by simp [hi]))
    unfold rawO at h1
    unfold sumO at *
    simp only [List.flatMap_cons, List.length_append, List.map_cons, List.sum_cons]
    rw [h2]
    unfold doneS
    simp only [List.length_cons, List.length_map] at h1 ⊢
    omega

set_option maxRecDepth 100000 in
set_option maxHeartbeats 8000000 in
theorem slideTells_walk (w : World) (AW AR : Option Addr) (nW cW nR cR : Nat) (ws rs : List Int) (hW : WsIn w AW nW cW ws) (hR : WsIn w AR nR cR rs) :
    Calls Try.prog 12 #[.agg #[.slice AW nW cW, .slice AR nR cR]] w fun e w' => e = .returned (.bool true) ∧ Below w.heap.size w w' := by
  have hB0 : Below w.heap.size w (w.alloc (.cells #[.slice AW nW cW, .slice AR nR cR] 55)) := (Below.refl _ w).alloc (Nat.le_refl _) _
  have BA := hide (Blk.new w 55 #[.slice AW nW cW, .slice AR nR cR])
  have HB0 := hide hB0
  have C4 := hide (fun w' (hb : Below w.heap.size w w') => refAcheck_any w' AW AR nW cW nR cR ws rs (hW.below hb) (hR.below hb))
  by_cases hz : acheck nW nR ws rs = 0
  · have C1 := hide (slide_ok _ AW AR nW cW nR cR ws rs (hW.below hB0) (hR.below hB0) hz)
    have C2 := hide (fun w' (hb : Below w.heap.size w w') => refSlide_any w' AW AR nW cW nR cR ws rs (hW.below hb) (hR.below hb) hz)
    rw [hz] at C4
    obtain ⟨h1, h2, h3, h4⟩ := acheck_zero hz
    have hgl : (graphOf ws (parse nW ws 0).1).length = (parse nW ws 0).1.length := by unfold graphOf; rw [List.length_map]
    have hG := good_of_check h4
    have hGW : ∀ x ∈ rs ++ fieldsOf ws (parse nW ws 0).1, GoodW (parse nW ws 0).1 x := fun x hx => by
      have hb : 0 ≤ x ∧ x ≤ 18446744073709551615 := by
        rcases List.mem_append.1 hx with h | h
        · exact hR.wf x h
        · obtain ⟨p, _, hp⟩ := List.mem_flatMap.1 h
          exact hW.wf x (List.mem_of_mem_drop (List.mem_of_mem_take hp))
      exact ⟨hb.1, hb.2, hG.e x hx, hG.ix x hx⟩
    have hw0 : ∀ x ∈ ws, 0 ≤ x := fun x hx => (hW.wf x hx).1
    have hvg : ∀ fs ∈ graphOf ws (parse nW ws 0).1, ValsOk (graphOf ws (parse nW ws 0).1).length fs := by rw [hgl]; exact ValsOk.of_graph fun x hx => hGW x (List.mem_append_right _ hx)
    have hvr : ValsOk (graphOf ws (parse nW ws 0).1).length (rs.map (turnW (ixOf (parse nW ws 0).1))) := by rw [hgl]; exact good_vals fun x hx => hGW x (List.mem_append_left _ hx)
    have hOK := reach_ok (gs := graphOf ws (parse nW ws 0).1) (vs := rs.map (turnW (ixOf (parse nW ws 0).1)))
    rw [hgl] at hOK
    have hsum := sumO_le hw0 hOK
    have hdl := doneS_len (ws := ws) (pre := (parse nW ws 0).1) (L := reachR (graphOf ws (parse nW ws 0).1) (rs.map (turnW (ixOf (parse nW ws 0).1)))) (l := reachR (graphOf ws (parse nW ws 0).1) (rs.map (turnW (ixOf (parse nW ws 0).1)))) (fun i hi => (rawO_len (nW := nW) hw0 (hOK.rng i hi).1 (hOK.rng i hi).2).1)
    obtain ⟨L, hL⟩ : ∃ L, reachR (graphOf ws (parse nW ws 0).1) (rs.map (turnW (ixOf (parse nW ws 0).1))) = L := ⟨_, rfl⟩
    simp only [hL] at C1 C2 hsum hdl
    obtain ⟨xs, hxs⟩ : ∃ xs, L.flatMap (doneS ws (parse nW ws 0).1 L) = xs := ⟨_, rfl⟩
    obtain ⟨ys, hys⟩ : ∃ ys, rs.map (transW (parse nW ws 0).1 L) = ys := ⟨_, rfl⟩
    have hyl : ys.length ≤ 1000 := by rw [← hys, List.length_map, hR.len]; omega
    simp only [hxs, hys] at C1 C2 hdl
    have hxl : xs.length ≤ 1000 := by have := hW.len; omega
    clear hz h1 h2 h3 h4 hgl hG hGW hw0 hvg hvr hOK hsum hdl hL hxs hys hB0
    go_enter Try.func12, Try.ntmps12
    go_wp2_with fail
    refine C1.out.mono ?_
    rintro e w1 ⟨v, rfl, hb1, hAr1⟩
    obtain ⟨X1, m1, e1, X2, m2, e2, rfl, k1, k2⟩ := hAr1
    have bA1 := (BA.out.below_ hb1).alloc (.cells #[.slice X1 m1 e1, .slice X2 m2 e2] 55)
    have hB1 := HB0.out.trans (hb1.mono HB0.out.size)
    have hB1' := hB1.alloc hB1.size (.cells #[.slice X1 m1 e1, .slice X2 m2 e2] 55)
    have bV1 := Blk.new w1 55 #[.slice X1 m1 e1, .slice X2 m2 e2]
    have hAr1 : ArenaRd w (w1.alloc (.cells #[.slice X1 m1 e1, .slice X2 m2 e2] 55)) (.agg #[.slice X1 m1 e1, .slice X2 m2 e2]) xs ys := ⟨_, _, _, _, _, _, rfl, (k1.below ((Below.refl _ w1).alloc (Nat.le_refl _) _)).more (fun g _ h => by simp at h; omega), (k2.below ((Below.refl _ w1).alloc (Nat.le_refl _) _)).more (fun g _ h => by simp at h; omega)⟩
    obtain ⟨a1, a2, a3⟩ := bA1.rules
    have HB1 := hide hB1'
    have BA1 := hide bA1
    have BV1 := hide bV1
    have HAr1 := hide hAr1
    clear hb1 hB1 hB1' bA1 bV1 k1 k2 hAr1 HB0 BA C1
    go_wp2_with fail
    refine (C4.out _ HB1.out).mono ?_
    rintro e w2 ⟨rfl, hb2⟩
    have hB2 := HB1.out.trans (hb2.mono HB1.out.size)
    have bA2 := BA1.out.below_ hb2
    have bV2 := BV1.out.below_ hb2
    have hAr2 : ArenaRd w w2 (.agg #[.slice X1 m1 e1, .slice X2 m2 e2]) xs ys := by
      obtain ⟨_, _, _, _, _, _, h, p1, p2⟩ := HAr1.out
      exact ⟨_, _, _, _, _, _, h, p1.below hb2, p2.below hb2⟩
    clear a1 a2 a3
    have u5 : w2.cell? ⟨w.heap.size, 0, none⟩ = some (.slice AW nW cW) := by rw [bA2.cell]; rfl
    have u6 : w2.cell? ⟨w.heap.size, 1, none⟩ = some (.slice AR nR cR) := by rw [bA2.cell]; rfl
    have v5 : w2.cell? ⟨w1.heap.size, 0, none⟩ = some (.slice X1 m1 e1) := by rw [bV2.cell]; rfl
    have v6 : w2.cell? ⟨w1.heap.size, 1, none⟩ = some (.slice X2 m2 e2) := by rw [bV2.cell]; rfl
    have HB2 := hide hB2
    have HAr2 := hide hAr2
    have BV2 := hide bV2
    clear hb2 hB2 bA2 bV2 hAr2 HB1 BA1 BV1 HAr1 C4
    go_wp2_with fail
    go_region_law (first
      | (try go_simp
         go_at_call 51
         refine (C2.out w2.drew HB2.out.drew).mono ?_
         rintro e w3 ⟨va, rfl, hb3, hAr3⟩
         have hB3 := HB2.out.drew.trans (hb3.mono HB2.out.size)
         have bV3 := BV2.out.drew.below_ hb3
         (have d5 : w3.cell? ⟨w1.heap.size, 0, none⟩ = some (.slice X1 m1 e1) := by rw [bV3.cell]; rfl)
         (have d6 : w3.cell? ⟨w1.heap.size, 1, none⟩ = some (.slice X2 m2 e2) := by rw [bV3.cell]; rfl)
         (have hAr3' : ArenaRd w w3 (.agg #[.slice X1 m1 e1, .slice X2 m2 e2]) xs ys := by
            obtain ⟨_, _, _, _, _, _, h, p1, p2⟩ := HAr2.out
            exact ⟨_, _, _, _, _, _, h, (p1.below (Below.refl _ w2).drew).below hb3, (p2.below (Below.refl _ w2).drew).below hb3⟩))
      | (try go_simp
         go_at_call 28
         refine (arenas_any w3 w w2.drew _ _ xs ys hxl hyl hAr3' hAr3).mono ?_
         rintro e w4 ⟨rfl, hb4⟩
         have hB4 := hB3.trans (hb4.mono hB3.size)))
    all_goals
      go_wp2_with fail
      go_ret
      exact ⟨rfl, hB4⟩
  · have C1 := hide (slide_bad _ AW AR nW cW nR cR ws rs (hW.below hB0) (hR.below hB0) hz)
    obtain ⟨x, hx⟩ : ∃ x, acheck nW nR ws rs = x := ⟨_, rfl⟩
    rw [hx] at C1 hz
    simp only [hx] at C4
    have y1 : (x != 0) = true := by rw [bne_iff_ne]; exact hz
    clear hz hx hB0
    go_enter Try.func12, Try.ntmps12
    go_wp2_with fail
    refine C1.out.mono ?_
    rintro e w1 ⟨rfl, hb1⟩
    have bA1 := (BA.out.below_ hb1).alloc (.cells #[.slice none 0 0, .slice none 0 0] 55)
    have hB1 := HB0.out.trans (hb1.mono HB0.out.size)
    have hB1' := hB1.alloc hB1.size (.cells #[.slice none 0 0, .slice none 0 0] 55)
    have bV1 := Blk.new w1 55 #[.slice none 0 0, .slice none 0 0]
    obtain ⟨a1, a2, a3⟩ := bA1.rules
    have HB1 := hide hB1'
    have BV1 := hide bV1
    clear hb1 hB1 hB1' bA1 bV1 HB0 BA C1
    go_wp2_with fail
    refine (C4.out _ HB1.out).mono ?_
    rintro e w2 ⟨rfl, hb2⟩
    have hB2 := HB1.out.trans (hb2.mono HB1.out.size)
    have bV2 := BV1.out.below_ hb2
    clear a1 a2 a3
    obtain ⟨v1, v2, v3⟩ := bV2.rules
    have HB2 := hide hB2
    clear hb2 hB2 bV2 HB1 BV1 C4
    go_wp2_with fail
    refine (arenas_any w2 w2 w2 _ _ [] [] (by simp) (by simp) (arenas_nil w2) (arenas_nil w2)).mono ?_
    rintro e w3 ⟨rfl, hb3⟩
    have hB3 := HB2.out.trans (hb3.mono HB2.out.size)
    have HB3 := hide hB3
    clear hB3 hb3 v1 v2 v3
    go_wp2_with fail
    go_ret
    exact ⟨rfl, HB3.out⟩
end Go.Proofs.Ytpbafmdebflbpaa

namespace Go.Proofs.Ytpbafmdebflbpaa
open Go.ChangeShapes Go.WideShapes Go.Deep Go.RowKit

theorem block_lt_ {w : World} {a : Addr} {v : Value} (h : w.cell? a = some v) : a.block < w.heap.size := by
  unfold World.cell? at h
  split at h
  · rename_i hb; exact (Array.getElem?_eq_some_iff.1 hb).1
  · cases h
theorem triples_length (l : List (Int × Int × Int)) : (l.flatMap fun d => [Value.int .i64 d.1, .int .i64 d.2.1, .int .i64 d.2.2]).length = l.length * 3 := by
  induction l with
  | nil => rfl
  | cons a l ih => rw [List.flatMap_cons, List.length_append, ih]; simp; omega
theorem triples_at (l : List (Int × Int × Int)) (q r : Nat) (hr : r < 3) : (l.flatMap fun d => [Value.int .i64 d.1, .int .i64 d.2.1, .int .i64 d.2.2])[q * 3 + r]? = (l[q]?).bind fun d => [Value.int .i64 d.1, .int .i64 d.2.1, .int .i64 d.2.2][r]? := by
  induction l generalizing q with
  | nil => rfl
  | cons a l ih =>
    rw [List.flatMap_cons]
    cases q with
    | zero => rw [List.getElem?_append_left (by simp; omega)]; simp
    | succ q => rw [List.getElem?_append_right (by simp; omega), show (q + 1) * 3 + r - [Value.int .i64 a.1, .int .i64 a.2.1, .int .i64 a.2.2].length = q * 3 + r by simp; omega, ih]; rfl

/-- A slice of structs of three ints. -/
theorem open_deeds {H : Type} {enc : TypeId × Value → H} {P : Program} {w : World} {base : Nat} {spare : Nat → Bool} {held : Bool} {t e : TypeId} {v : Value} {d : DataW H} {p : List MemPlace} {fs : Array Field}
    (ht : P.underlying t = some (.slice e)) (he : P.underlying e = some (.struct fs)) (hone : oneCellFields P fs = true) (hC : P.cellsOf e = 3) (hf : fs.size = 3)
    (hi : ∀ (j : Nat) (f : Field), fs[j]? = some f → P.underlying f.type = some (.int .i64)) {r : Reach} {bb : Nat} (hv : Value.okWide P w r bb t v) (h : DataW.Trod enc P w base spare held t v d p) :
    ∃ (A : Option Addr) (n c : Nat) (l : List (Int × Int × Int)), v = .slice A n c ∧ n ≤ 9223372036854775807 ∧ n ≤ c ∧ c ≤ 9223372036854775807 ∧ l.length = n ∧
      Rd w (fun _ => True) 3 A n (l.flatMap fun d => [.int .i64 d.1, .int .i64 d.2.1, .int .i64 d.2.2]) := by
  obtain ⟨A, n, c, rfl⟩ := okWide_slice ht hv
  obtain ⟨fuel, h⟩ := h
  rcases open_slice ht h with ⟨h0, _⟩ | ⟨a, len, cap, m, n0, D, Pl, hcs, _, hl, hm, hmm, _, hx⟩
  · simp [Value.cells] at h0
    obtain ⟨rfl, rfl, rfl⟩ := h0
    exact ⟨none, 0, 0, [], rfl, by omega, by omega, by omega, rfl, Rd.nil⟩
  · simp [Value.cells] at hcs
    obtain ⟨rfl, rfl, rfl⟩ := hcs
    have hle : n ≤ m := by rw [hmm]; split <;> omega
    have hmx : c ≤ 9223372036854775807 := by simpa [maxLen] using hm
    have key : ∀ i, i < n → ∃ x : Int × Int × Int, w.cell? (a.add (i * 3)) = some (.int .i64 x.1) ∧ w.cell? (a.add (i * 3 + 1)) = some (.int .i64 x.2.1) ∧ w.cell? (a.add (i * 3 + 2)) = some (.int .i64 x.2.2) := by
      intro i hi'
      obtain ⟨cs', h1, h2⟩ := hx i (by omega)
      rw [hC] at h1
      obtain ⟨_, hcl, hat⟩ := World.cells?_some h1
      obtain ⟨ys, n', _, _, _, hyl, hj⟩ := DataW.trod_struct he h2
      have one : ∀ j, j < 3 → ∃ k : Int, w.cell? (a.add (i * 3 + j)) = some (.int .i64 k) := by
        intro j hj3
        have hfj : fs[j]? = some (fs[j]'(by omega)) := Array.getElem?_eq_getElem (by omega)
        obtain ⟨ho, hk⟩ := hone_of hone j _ hfj
        have h3 := hj j _ hfj
        rw [ho, hk, List.getElem?_eq_getElem (by omega)] at h3
        obtain ⟨k, e0, _, _⟩ := DataW.trod_int (hi j _ hfj) h3
        refine ⟨k, ?_⟩
        rw [← add_of_add, hat j (by omega)]
        have e1 := congrArg (fun l => l[0]?) e0
        simpa [List.getElem?_take, List.getElem?_drop] using e1
      obtain ⟨x, hx0⟩ := one 0 (by omega)
      obtain ⟨y, hx1⟩ := one 1 (by omega)
      obtain ⟨z, hx2⟩ := one 2 (by omega)
      exact ⟨(x, y, z), hx0, hx1, hx2⟩
    obtain ⟨f, hf'⟩ := choose_lt key
    refine ⟨some a, n, c, (List.range n).map f, rfl, by omega, hl, hmx, by simp, ?_, ?_⟩
    · rw [triples_length]; simp
    · intro hn
      refine ⟨a, rfl, trivial, ?_, ?_⟩
      · have := block_lt_ (hf' 0 hn).1
        simpa [block_of_add] using this
      · intro j u hu
        obtain ⟨q, r, hr, rfl⟩ : ∃ q r, r < 3 ∧ j = q * 3 + r := ⟨j / 3, j % 3, Nat.mod_lt _ (by omega), by omega⟩
        rw [triples_at _ _ _ hr] at hu
        simp only [List.getElem?_map] at hu
        rcases Nat.lt_or_ge q n with hq | hq
        case inr => rw [List.getElem?_eq_none (by simp; omega)] at hu; cases hu
        rw [List.getElem?_range hq] at hu
        simp only [Option.map_some, Option.bind_some] at hu
        obtain ⟨g0, g1, g2⟩ := hf' q hq
        rcases (show r = 0 ∨ r = 1 ∨ r = 2 by omega) with rfl | rfl | rfl
        · simp at hu; subst hu; simpa [add_of_add] using g0
        · simp at hu; subst hu; simpa [add_of_add] using g1
        · simp at hu; subst hu; simpa [add_of_add] using g2
end Go.Proofs.Ytpbafmdebflbpaa

namespace Go.Proofs.Ytpbafmdebflbpaa
open Go.ChangeShapes Go.WideShapes Go.Deep Go.RowKit

section
variable {H : Type} {enc : TypeId × Value → H} {P : Program} {w : World} {base : Nat} {spare : Nat → Bool} {held : Bool}
theorem trod_words {t e : TypeId} {fuel : Nat} {cs : List Value} {x : DataW H × List MemPlace} (ht : P.underlying t = some (.slice e)) (hC1 : P.cellsOf e = 1) (he : P.underlying e = some (.int .u64)) (h : DataW.trod enc P w base spare held fuel t cs = some x) :
    ∃ (A : Option Addr) (n c : Nat) (l : List Int), cs = [.slice A n c] ∧ WsIn w A n c l := by
  rcases open_slice1 ht hC1 h with ⟨h0, _⟩ | ⟨a, n, c, m, n0, V, D, Pl, rfl, _, hl, hm, hmm, _, hx⟩
  · exact ⟨none, 0, 0, [], h0, ⟨Rd.nil, ⟨by omega, by omega⟩, fun _ => ⟨rfl, rfl⟩, by simp⟩⟩
  · have hle : n ≤ m := by rw [hmm]; split <;> omega
    have hmx : c ≤ 9223372036854775807 := by simpa [maxLen] using hm
    have key : ∀ i, i < n → ∃ x : Int, w.cell? (a.add i) = some (.int .u64 x) ∧ 0 ≤ x ∧ x ≤ 18446744073709551615 := by
      intro i hi
      obtain ⟨h1, h2⟩ := hx i (by omega)
      obtain ⟨k, e1, _, hw⟩ := DataW.trod_int he h2
      have hb := bounds_u64 hw
      have e2 := congrArg (fun l => l[0]?) e1
      have e3 : V i = .int .u64 k := by simpa using e2
      exact ⟨k, by rw [h1, e3], hb⟩
    obtain ⟨g, hg⟩ := choose_lt key
    refine ⟨some a, n, c, (List.range n).map g, rfl, ⟨⟨by simp [u64s], fun hn => ⟨a, rfl, trivial, ?_, ?_⟩⟩, ⟨hl, hmx⟩, (fun h => by cases h), fun y hy => ?_⟩⟩
    · have := block_lt_ (hg 0 hn).1
      simpa [block_of_add] using this
    · intro j u hu
      simp only [u64s, List.getElem?_map] at hu
      rcases Nat.lt_or_ge j n with hq | hq
      case inr => rw [List.getElem?_eq_none (by simp; omega)] at hu; cases hu
      rw [List.getElem?_range hq] at hu
      simp at hu
      subst hu
      exact (hg j hq).1
    · obtain ⟨j, hj, rfl⟩ := List.mem_map.1 hy
      exact (hg j (List.mem_range.1 hj)).2
end
end Go.Proofs.Ytpbafmdebflbpaa
