/- The walk of the law FreePlays. Arguments that are slices, opened to lists of cells. A script that comes in: a slice of structs of two numbers. -/
import Derived.Test.YtjphckfbbiehdaaSFreePlays17
import Derived.Deep.RegionWith
import Derived.Test.YtjphckfbbiehdaaSFreePlays0
import Derived.Deep.Slices
import Derived.Deep.Fields
import Derived.ChangeSame
import Derived.Test.YtjphckfbbiehdaaSFreePlays16
import Derived.Test.YtjphckfbbiehdaaSFreePlays8
set_option linter.unusedSimpArgs false
set_option linter.unusedVariables false
namespace Go.Proofs.Ytjphckfbbiehdaa
open Go.RowKit
theorem fy_small {size : Nat} {p : Int} (hs : 0 < size) (qs : List (Int × Int)) : ∀ k, k ≤ qs.length → (runS (fyStep size p) (qs.take k) (fy0 size)).2.last ≤ size ∧ (runS (fyStep size p) (qs.take k) (fy0 size)).2.pl.length ≤ k
  | 0, _ => ⟨Nat.zero_le _, Nat.le_refl _⟩
  | k + 1, hk => by
    obtain ⟨h1, h2⟩ := fy_small hs qs k (by omega)
    obtain ⟨-, hS, -⟩ := fr_run (p := p) (fr0_ok hs) qs k (by omega)
    rw [runS_at _ qs _ k (by omega)]
    dsimp only
    generalize (runS (fyStep size p) (qs.take k) (fy0 size)).2 = y at h1 h2 hS ⊢
    generalize (runS (frStep size p) (qs.take k) (fr0 size)).2 = a at hS
    have same : y.last ≤ size ∧ y.pl.length ≤ k + 1 := ⟨h1, Nat.le_succ_of_le h2⟩
    unfold fyStep
    split
    · split
      · exact same
      · split
        · exact same
        · rename_i i hi
          obtain ⟨h3, h4⟩ := pickK_some hi
          have hb : (blksF y.tk).getD i (0, 0) ∈ a.F := by
            rw [← hS.blks, List.getD_eq_getElem?_getD, List.getElem?_eq_getElem h3]; exact List.getElem_mem h3
          have hle := hS.le hb
          refine ⟨?_, ?_⟩
          · show ((blksF y.tk).getD i (0, 0)).1 + _ ≤ size
            omega
          · show (y.pl ++ [_]).length ≤ k + 1
            rw [List.length_append, List.length_singleton]; omega
    · split
      · split
        · split
          · exact same
          · refine ⟨h1, ?_⟩
            show (y.pl.set _ _).length ≤ k + 1
            rw [List.length_set]; omega
        · exact same
      · exact same
set_option maxRecDepth 100000 in
set_option maxHeartbeats 16000000 in
theorem freePlays_no (w : World) (size p : Int) (Aq : Option Addr) (nd cd : Nat) (hz : frErr size p nd ≠ 0) :
    Calls Try.prog 5 #[.int .i64 size, .int .i64 p, .slice Aq nd cd] w fun e w' => e = .returned (.bool true) ∧ Below w.heap.size w w' := by
  have C1 := frPlay_no w size p Aq nd cd hz
  have C2 := hide (fun (X : World) => freed_any X none none none none none none 0 0 0 0 0 0 0 0 [] [] [] (by omega) (by omega) Rd.nil Rd.nil Rd.nil Rd.nil Rd.nil Rd.nil)
  have hcases : (size < 1 ∧ frErr size p nd = 3) ∨ (¬ size < 1 ∧ 256 < size ∧ frErr size p nd = 3) ∨ (¬ size < 1 ∧ ¬ 256 < size ∧ p < 1 ∧ frErr size p nd = 5) ∨ (¬ size < 1 ∧ ¬ 256 < size ∧ ¬ p < 1 ∧ 4 < p ∧ frErr size p nd = 5) ∨ (¬ size < 1 ∧ ¬ 256 < size ∧ ¬ p < 1 ∧ ¬ 4 < p ∧ 100 < nd ∧ frErr size p nd = 1) := by
    unfold frErr at hz ⊢
    by_cases a1 : size < 1
    · exact .inl ⟨a1, by rw [if_pos (.inl a1)]⟩
    by_cases a2 : 256 < size
    · exact .inr (.inl ⟨a1, a2, by rw [if_pos (.inr a2)]⟩)
    rw [if_neg (by omega)] at hz ⊢
    by_cases a3 : p < 1
    · exact .inr (.inr (.inl ⟨a1, a2, a3, by rw [if_pos (.inl a3)]⟩))
    by_cases a4 : 4 < p
    · exact .inr (.inr (.inr (.inl ⟨a1, a2, a3, a4, by rw [if_pos (.inr a4)]⟩)))
    rw [if_neg (by omega)] at hz ⊢
    by_cases a5 : 100 < nd
    · exact .inr (.inr (.inr (.inr ⟨a1, a2, a3, a4, a5, by rw [if_pos a5]⟩)))
    · rw [if_neg a5] at hz; exact absurd rfl hz
  unfold freedV at C1 C2
  rcases hcases with ⟨a1, he⟩ | ⟨a1, a2, he⟩ | ⟨a1, a2, a3, he⟩ | ⟨a1, a2, a3, a4, he⟩ | ⟨a1, a2, a3, a4, a5, he⟩
  all_goals
    rw [he] at C1
    have b1 := decide_eq_true_eq (p := size < 1)
    try have t1 : decide (size < 1) = true := by simp only [a1, decide_true]
    try have t1 : decide (size < 1) = false := by simp only [a1, decide_false]
    try have t2 : decide (256 < size) = true := by simp only [a2, decide_true]
    try have t2 : decide (256 < size) = false := by simp only [a2, decide_false]
    try have t3 : decide (p < 1) = true := by simp only [a3, decide_true]
    try have t3 : decide (p < 1) = false := by simp only [a3, decide_false]
    try have t4 : decide (4 < p) = true := by simp only [a4, decide_true]
    try have t4 : decide (4 < p) = false := by simp only [a4, decide_false]
    try have t5 : decide ((100 : Int) < (nd : Int)) = true := by simp; omega
    try have t6 : (100 : Int) < (nd : Int) := by omega
    have C1 := hide C1
    clear hz he b1
    go_enter Try.func5, Try.ntmps5
    go_wp2_with fail
    refine C1.out.mono ?_
    rintro e w1 ⟨rfl, hb1⟩
    obtain ⟨g1, hg1⟩ : ∃ g, w1.heap.size = g := ⟨_, rfl⟩
    have hS1 := ((Sep.nil No w).below hb1).blkAt 49 #[.slice none 0 0, .slice none 0 0, .slice none 0 0] hg1
    obtain ⟨x1, x2, x3, _⟩ := hS1.rules 0 (g := g1) (t := 49) rfl
    have x5 := (x1 0).trans (show _ = some (.slice none 0 0) from rfl)
    have x6 := (x1 1).trans (show _ = some (.slice none 0 0) from rfl)
    have x7 := (x1 2).trans (show _ = some (.slice none 0 0) from rfl)
    have HS1 := hide hS1
    clear hb1 hS1 C1 x1
    go_wp2_with fail
    refine (C2.out _).mono ?_
    rintro e w2 ⟨rfl, hb2⟩
    have HB := hide (HS1.out.below hb2).below_
    clear hb2 HS1 C2 x2 x3 x5 x6 x7
    go_wp2_with fail
    go_ret
    exact ⟨rfl, HB.out⟩
set_option maxRecDepth 100000 in
set_option maxHeartbeats 16000000 in
theorem freePlays_ok (w : World) (size p : Int) (Aq : Option Addr) (nd cd : Nat) (qs : List (Int × Int)) (hwf : ∀ q ∈ qs, wfI q.2) (hQ : Rd w (fun _ => True) 2 Aq nd (askV qs)) (hz : frErr size p nd = 0) :
    Calls Try.prog 5 #[.int .i64 size, .int .i64 p, .slice Aq nd cd] w fun e w' => e = .returned (.bool true) ∧ Below w.heap.size w w' := by
  obtain ⟨q1, q2, q3⟩ : ¬ (size < 1 ∨ 256 < size) ∧ ¬ (p < 1 ∨ 4 < p) ∧ ¬ 100 < nd := by
    unfold frErr at hz
    by_cases a1 : size < 1 ∨ 256 < size
    · rw [if_pos a1] at hz; omega
    by_cases a2 : p < 1 ∨ 4 < p
    · rw [if_neg a1, if_pos a2] at hz; omega
    by_cases a3 : 100 < nd
    · rw [if_neg a1, if_neg a2, if_pos a3] at hz; omega
    exact ⟨a1, a2, a3⟩
  obtain ⟨n, rfl⟩ := int_nat (show 0 ≤ size from by omega)
  have hn0 : 0 < n := by omega
  have hdl : qs.length = nd := by have := hQ.1; rw [askV_length] at this; omega
  have hrun := fun k hk => fr_run (p := p) (fr0_ok hn0) qs k hk
  have hsm := fy_small (p := p) hn0 qs
  have hp : p = 1 ∨ p = 2 ∨ p = 3 ∨ p = 4 := by omega
  have C1 := hide (frPlay_ok w n hn0 (by omega) p (by omega) Aq nd cd qs hQ (by omega) hwf (fun k hk => (hrun k hk).2.1.frok))
  have C2 := hide (fun (X : World) (hb : Below w.heap.size w X) => refFreed_any X n (by omega) p hp Aq nd cd qs (hQ.below hb) (by omega) (fun k hk => (hrun k hk).2.1.fyok (by have := (hsm k hk).1; omega) (by have := (hsm k hk).2; omega)))
  have hfin := hrun qs.length (Nat.le_refl _)
  rw [List.take_length] at hfin
  have e1 := hfin.1
  have e2 := hfin.2.1.blks
  have e3 := hfin.2.2
  have e4 := hfin.2.1.flen
  rw [← e1, e2] at C2
  obtain ⟨R, hR⟩ : ∃ r, runS (frStep n p) qs (fr0 n) = r := ⟨_, rfl⟩
  rw [hR] at C1 C2 e3 e4
  obtain ⟨F, hF⟩ : ∃ f, R.2.F = f := ⟨_, rfl⟩
  rw [hF] at C1 C2 e4
  obtain ⟨cs, hcs⟩ : ∃ l, R.1.map (fun e => e.1) = l := ⟨_, rfl⟩
  obtain ⟨as_, has⟩ : ∃ l, R.1.map (fun e => e.2) = l := ⟨_, rfl⟩
  simp only [hcs, has] at C1 C2
  have CS := hide (fun (X : World) (A1 A2 A3 B1 B2 B3 : Option Addr) (c1 c2 c3 d1 d2 d3 : Nat) (h1 : Rd X (fun _ => True) 1 A1 nd (ints cs)) (h2 : Rd X (fun _ => True) 1 A2 nd (ints as_)) (h3 : Rd X (fun _ => True) 2 A3 F.length (bkV F)) (k1 : Rd X (fun _ => True) 1 B1 nd (ints cs)) (k2 : Rd X (fun _ => True) 1 B2 nd (ints as_)) (k3 : Rd X (fun _ => True) 2 B3 F.length (bkV F)) => freed_any X A1 A2 A3 B1 B2 B3 nd F.length c1 c2 c3 d1 d2 d3 cs as_ F (by omega) (by omega) h1 h2 h3 k1 k2 k3)
  have t1 : decide ((n : Int) < 1) = false := by simp; omega
  have t1' : decide (n < 1) = false := by simp; omega
  have t2 : decide ((256 : Int) < (n : Int)) = false := by simp; omega
  have t2' : decide (256 < n) = false := by simp; omega
  have t3 : decide (p < 1) = false := by simp; omega
  have t4 : decide (4 < p) = false := by simp; omega
  have t5 : decide ((100 : Int) < (nd : Int)) = false := by simp; omega
  have t5' : decide (100 < nd) = false := by simp; omega
  obtain ⟨fl, hfl⟩ : ∃ f, F.length = f := ⟨_, rfl⟩
  rw [hfl] at C1 C2 CS
  unfold freedV at C1 C2 CS
  clear hz q1 q2 q3 hQ hwf hn0 hdl hrun hsm hp hfin e1 e2 e3 e4 hR hF hcs has hfl
  go_enter Try.func5, Try.ntmps5
  go_wp2_with fail
  refine C1.out.mono ?_
  rintro e w1 ⟨A1, A2, A3, c1, c2, fl, c3, rfl, hb1, r1, r2, hfl, r3⟩
  subst hfl
  obtain ⟨g1, hg1⟩ : ∃ g, w1.heap.size = g := ⟨_, rfl⟩
  have hS1 := ((Sep.nil No w).below hb1).blkAt 49 #[.slice A1 nd c1, .slice A2 nd c2, .slice A3 fl c3] hg1
  obtain ⟨x1, x2, x3, _⟩ := hS1.rules 0 (g := g1) (t := 49) rfl
  have x5 := (x1 0).trans (show _ = some (.slice A1 nd c1) from rfl)
  have x6 := (x1 1).trans (show _ = some (.slice A2 nd c2) from rfl)
  have x7 := (x1 2).trans (show _ = some (.slice A3 fl c3) from rfl)
  have HR := hide (show Rd w1 (fun _ => True) 1 A1 nd (ints cs) ∧ Rd w1 (fun _ => True) 1 A2 nd (ints as_) ∧ Rd w1 (fun _ => True) 2 A3 fl (bkV F) from ⟨r1.more (fun _ _ _ => trivial), r2.more (fun _ _ _ => trivial), r3.more (fun _ _ _ => trivial)⟩)
  have HS1 := hide hS1.drew
  have HB1 := hide (show Below w1.heap.size w1 (w1.alloc (.cells #[.slice A1 nd c1, .slice A2 nd c2, .slice A3 fl c3] 49)).drew from ((Below.refl _ w1).alloc (Nat.le_refl _) _).drew)
  clear hb1 hS1 x1 r1 r2 r3 C1
  go_upto_region 11 with fail
  go_region_with (first
    | (go_at_call 20
       refine (C2.out _ HS1.out.below_).mono ?_
       rintro e w2 ⟨B1, B2, B3, d1, d2, fl2, d3, rfl, hb2, s1, s2, hfl2, s3⟩
       subst hfl2
       have hS2 := HS1.out.below hb2
       obtain ⟨y1, y2, y3, _⟩ := hS2.rules 0 (g := g1) (t := 49) rfl
       have y5 := (y1 0).trans (show _ = some (.slice A1 nd c1) from rfl)
       have y6 := (y1 1).trans (show _ = some (.slice A2 nd c2) from rfl)
       have y7 := (y1 2).trans (show _ = some (.slice A3 fl2 c3) from rfl)
       have HS2 := hide hS2
       have HR2 := hide (show Rd w2 (fun _ => True) 1 A1 nd (ints cs) ∧ Rd w2 (fun _ => True) 1 A2 nd (ints as_) ∧ Rd w2 (fun _ => True) 2 A3 fl2 (bkV F) from ⟨(HR.out.1.below HB1.out).below hb2, (HR.out.2.1.below HB1.out).below hb2, (HR.out.2.2.below HB1.out).below hb2⟩)
       have HR3 := hide (show Rd w2 (fun _ => True) 1 B1 nd (ints cs) ∧ Rd w2 (fun _ => True) 1 B2 nd (ints as_) ∧ Rd w2 (fun _ => True) 2 B3 fl2 (bkV F) from ⟨s1.more (fun _ _ _ => trivial), s2.more (fun _ _ _ => trivial), s3.more (fun _ _ _ => trivial)⟩)
       clear hS2 hb2 s1 s2 s3 y1 HR HB1 HS1)
    | (go_at_call 19
       refine (CS.out _ A1 A2 A3 B1 B2 B3 c1 c2 c3 d1 d2 d3 HR2.out.1 HR2.out.2.1 HR2.out.2.2 HR3.out.1 HR3.out.2.1 HR3.out.2.2).mono ?_
       rintro e w3 ⟨rfl, hb3⟩
       have HB3 := hide (HS2.out.below hb3).below_
       clear hb3))
  all_goals go_wp2_with fail
  all_goals go_ret
  all_goals exact ⟨rfl, HB3.out⟩
theorem freePlays_walk (w : World) (size p : Int) (Aq : Option Addr) (nd cd : Nat) (qs : List (Int × Int)) (hwf : ∀ q ∈ qs, wfI q.2) (hQ : Rd w (fun _ => True) 2 Aq nd (askV qs)) :
    Calls Try.prog 5 #[.int .i64 size, .int .i64 p, .slice Aq nd cd] w fun e w' => e = .returned (.bool true) ∧ Below w.heap.size w w' := by
  by_cases hz : frErr size p nd = 0
  · exact freePlays_ok w size p Aq nd cd qs hwf hQ hz
  · exact freePlays_no w size p Aq nd cd hz
end Go.Proofs.Ytjphckfbbiehdaa

namespace Go.Proofs.Ytjphckfbbiehdaa
open Go.ChangeShapes Go.WideShapes Go.Deep Go.RowKit
theorem block_lt_ {w : World} {a : Addr} {v : Value} (h : w.cell? a = some v) : a.block < w.heap.size := by
  unfold World.cell? at h
  split at h
  · rename_i hb; exact (Array.getElem?_eq_some_iff.1 hb).1
  · cases h
end Go.Proofs.Ytjphckfbbiehdaa

namespace Go.Proofs.Ytjphckfbbiehdaa
open Go.ChangeShapes Go.WideShapes Go.Deep Go.RowKit
theorem askV_at2 (l : List (Int × Int)) (q r : Nat) (hr : r < 2) : (askV l)[q * 2 + r]? = (l[q]?).bind fun d => [Value.int .i64 d.1, .int .i64 d.2][r]? := by
  unfold askV
  induction l generalizing q with
  | nil => rfl
  | cons a l ih =>
    rw [List.flatMap_cons]
    cases q with
    | zero => rw [List.getElem?_append_left (by simp; omega)]; simp
    | succ q => rw [List.getElem?_append_right (by simp; omega), show (q + 1) * 2 + r - [Value.int .i64 a.1, .int .i64 a.2].length = q * 2 + r by simp; omega, ih]; rfl
theorem open_asks {H : Type} {enc : TypeId × Value → H} {P : Program} {w : World} {base : Nat} {spare : Nat → Bool} {held : Bool} {t e : TypeId} {v : Value} {d : DataW H} {p : List MemPlace} {fs : Array Field}
    (ht : P.underlying t = some (.slice e)) (he : P.underlying e = some (.struct fs)) (hone : oneCellFields P fs = true) (hC : P.cellsOf e = 2) (hf : fs.size = 2)
    (hi : ∀ (j : Nat) (f : Field), fs[j]? = some f → P.underlying f.type = some (.int .i64)) {r : Reach} {bb : Nat} (hv : Value.okWide P w r bb t v) (h : DataW.Trod enc P w base spare held t v d p) :
    ∃ (A : Option Addr) (n c : Nat) (l : List (Int × Int)), v = .slice A n c ∧ n ≤ 9223372036854775807 ∧ l.length = n ∧ (∀ q ∈ l, wfI q.2) ∧ Rd w (fun _ => True) 2 A n (askV l) := by
  obtain ⟨A, n, c, rfl⟩ := okWide_slice ht hv
  obtain ⟨fuel, h⟩ := h
  rcases open_slice ht h with ⟨h0, _⟩ | ⟨a, len, cap, m, n0, D, Pl, hcs, _, hl, hm, hmm, _, hx⟩
  · simp [Value.cells] at h0
    obtain ⟨rfl, rfl, rfl⟩ := h0
    exact ⟨none, 0, 0, [], rfl, by omega, rfl, (fun q hq => by cases hq), Rd.nil⟩
  · simp [Value.cells] at hcs
    obtain ⟨rfl, rfl, rfl⟩ := hcs
    have hle : n ≤ m := by rw [hmm]; split <;> omega
    have hmx : c ≤ 9223372036854775807 := by simpa [maxLen] using hm
    have key : ∀ i, i < n → ∃ x : Int × Int, wfI x.2 ∧ w.cell? (a.add (i * 2)) = some (.int .i64 x.1) ∧ w.cell? (a.add (i * 2 + 1)) = some (.int .i64 x.2) := by
      intro i hi'
      obtain ⟨cs', h1, h2⟩ := hx i (by omega)
      rw [hC] at h1
      obtain ⟨_, hcl, hat⟩ := World.cells?_some h1
      obtain ⟨ys, n', _, _, _, hyl, hj⟩ := DataW.trod_struct he h2
      have one : ∀ j, j < 2 → ∃ k : Int, wfI k ∧ w.cell? (a.add (i * 2 + j)) = some (.int .i64 k) := by
        intro j hj3
        have hfj : fs[j]? = some (fs[j]'(by omega)) := Array.getElem?_eq_getElem (by omega)
        obtain ⟨ho, hk⟩ := hone_of hone j _ hfj
        have h3 := hj j _ hfj
        rw [ho, hk, List.getElem?_eq_getElem (by omega)] at h3
        obtain ⟨k, e0, _, hwf⟩ := DataW.trod_int (hi j _ hfj) h3
        refine ⟨k, hwf, ?_⟩
        rw [← add_of_add, hat j (by omega)]
        have e1 := congrArg (fun l => l[0]?) e0
        simpa [List.getElem?_take, List.getElem?_drop] using e1
      obtain ⟨x0, _, hx0⟩ := one 0 (by omega)
      obtain ⟨x1, hw1, hx1⟩ := one 1 (by omega)
      exact ⟨(x0, x1), hw1, hx0, hx1⟩
    obtain ⟨f, hf'⟩ := choose_lt key
    refine ⟨some a, n, c, (List.range n).map f, rfl, by omega, by simp, fun q hq => ?_, ?_, ?_⟩
    · obtain ⟨i, hi1, rfl⟩ := List.mem_map.1 hq
      exact (hf' i (List.mem_range.1 hi1)).1
    · rw [askV_length]; simp
    · intro hn
      refine ⟨a, rfl, trivial, ?_, ?_⟩
      · have := block_lt_ (hf' 0 hn).2.1
        simpa [block_of_add] using this
      · intro j u hu
        obtain ⟨q, r, hr, rfl⟩ : ∃ q r, r < 2 ∧ j = q * 2 + r := ⟨j / 2, j % 2, Nat.mod_lt _ (by omega), by omega⟩
        rw [askV_at2 _ _ _ hr] at hu
        simp only [List.getElem?_map] at hu
        rcases Nat.lt_or_ge q n with hq | hq
        case inr => rw [List.getElem?_eq_none (by simp; omega)] at hu; cases hu
        rw [List.getElem?_range hq] at hu
        simp only [Option.map_some, Option.bind_some] at hu
        obtain ⟨_, g0, g1⟩ := hf' q hq
        rcases (show r = 0 ∨ r = 1 by omega) with rfl | rfl
        · simp at hu; subst hu; simpa [add_of_add] using g0
        · simp at hu; subst hu; simpa [add_of_add] using g1
end Go.Proofs.Ytjphckfbbiehdaa
