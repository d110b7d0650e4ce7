/- The walk of the law BuddyPlays. Arguments that are slices, opened to lists of cells. A script that comes in: a slice of structs of two numbers. -/
import Derived.Test.YtjphckfbbiehdaaSBuddyPlays17
import Derived.Test.YtjphckfbbiehdaaSBuddyPlays20
import Derived.Deep.RegionWith
import Derived.Test.YtjphckfbbiehdaaSBuddyPlays0
import Derived.Deep.Slices
import Derived.Deep.Fields
import Derived.ChangeSame
import Derived.Test.YtjphckfbbiehdaaSBuddyPlays16
import Derived.Test.YtjphckfbbiehdaaSBuddyPlays6
set_option linter.unusedSimpArgs false
set_option linter.unusedVariables false
namespace Go.Proofs.Ytjphckfbbiehdaa
open Go.RowKit
def bdErr (L : Int) (nd : Nat) : Int := if L < 0 ∨ 7 < L then 3 else if 100 < nd then 1 else 0
set_option maxRecDepth 100000 in
set_option maxHeartbeats 16000000 in
theorem bdPlay_no (w : World) (L : Int) (Aq : Option Addr) (nd cd : Nat) (hz : bdErr L nd ≠ 0) :
    Calls Try.prog 21 #[.int .i64 L, .slice Aq nd cd] w fun e w' => e = .returned (.tuple #[freedV none none none 0 0 0 0 0, .int .i64 (bdErr L nd)]) ∧ Below w.heap.size w w' := by
  unfold freedV
  obtain ⟨g, hg⟩ : ∃ g, w.heap.size = g := ⟨_, rfl⟩
  have hS0 := (Sep.nil No w).blkAt 49 #[.slice none 0 0, .slice none 0 0, .slice none 0 0] hg
  have HS0 := hide hS0
  obtain ⟨x0, -, -, -⟩ := hS0.rules 0 (g := g) (t := 49) rfl
  clear hS0
  by_cases h1 : L < 0 ∨ 7 < L
  · have he : bdErr L nd = 3 := by unfold bdErr; rw [if_pos h1]
    rw [he]
    by_cases h2 : L < 0
    · have t1 : decide (L < 0) = true := by simp [h2]
      clear h1 h2 he hz
      go_enter Try.func21, Try.ntmps21
      go_wp2_with fail
      refine bodyPost_ret (v := .tuple #[.agg #[.slice none 0 0, .slice none 0 0, .slice none 0 0], .int .i64 3]) (by simp [results, Try.results21, go_sem, x0]) rfl ⟨rfl, ?_⟩
      exact (HS0.out).below_
    · have t1 : decide (L < 0) = false := by simp; omega
      have t2 : decide (7 < L) = true := by simp; omega
      clear h1 h2 he hz
      go_enter Try.func21, Try.ntmps21
      go_wp2_with fail
      refine bodyPost_ret (v := .tuple #[.agg #[.slice none 0 0, .slice none 0 0, .slice none 0 0], .int .i64 3]) (by simp [results, Try.results21, go_sem, x0]) rfl ⟨rfl, ?_⟩
      exact (HS0.out).below_
  · have h3 : 100 < nd := by
      unfold bdErr at hz
      rw [if_neg h1] at hz
      rcases Nat.lt_or_ge 100 nd with h | h
      · exact h
      · rw [if_neg (by omega)] at hz; exact absurd rfl hz
    have he : bdErr L nd = 1 := by unfold bdErr; rw [if_neg h1, if_pos h3]
    rw [he]
    have t1 : decide (L < 0) = false := by simp; omega
    have t2 : decide (7 < L) = false := by simp; omega
    have t3 : decide ((100 : Int) < (nd : Int)) = true := by simp; omega
    have t4 : (100 : Int) < (nd : Int) := by omega
    clear h1 he hz
    go_enter Try.func21, Try.ntmps21
    go_wp2_with fail
    refine bodyPost_ret (v := .tuple #[.agg #[.slice none 0 0, .slice none 0 0, .slice none 0 0], .int .i64 1]) (by simp [results, Try.results21, go_sem, x0]) rfl ⟨rfl, ?_⟩
    exact (HS0.out).below_
theorem BdS.fyok {L k : Nat} {y : FyA} (h : BdS L k y) (hL : L ≤ 7) (hk : k ≤ 1000) : FyOk (2 ^ L) y := by
  have hp := pow_le8 (show L ≤ 8 by omega)
  refine ⟨h.ok.len, Nat.le_trans h.last (Nat.le_trans hp (by omega)), Nat.le_trans h.pl hk, fun x i h0 hf => ?_⟩
  obtain ⟨hi, h1⟩ := FyA.find_some hf
  obtain ⟨j, q, e, hj, hq, -⟩ := h.ok.pc i _ (getD_some hi) (by rw [h1]; exact h0)
  rw [e] at h1
  rw [e, ← h1]
  dsimp only
  rw [Int.toNat_natCast]
  exact pow_num hj hq
set_option maxRecDepth 100000 in
set_option maxHeartbeats 16000000 in
theorem buddyPlays_no (w : World) (L : Int) (Aq : Option Addr) (nd cd : Nat) (hz : bdErr L nd ≠ 0) :
    Calls Try.prog 6 #[.int .i64 L, .slice Aq nd cd] w fun e w' => e = .returned (.bool true) ∧ Below w.heap.size w w' := by
  have C1 := bdPlay_no w L Aq nd cd hz
  have C2 := hide (fun (X : World) => freed_any X none none none none none none 0 0 0 0 0 0 0 0 [] [] [] (by omega) (by omega) Rd.nil Rd.nil Rd.nil Rd.nil Rd.nil Rd.nil)
  have hcases : (L < 0 ∧ bdErr L nd = 3) ∨ (¬ L < 0 ∧ 7 < L ∧ bdErr L nd = 3) ∨ (¬ L < 0 ∧ ¬ 7 < L ∧ 100 < nd ∧ bdErr L nd = 1) := by
    unfold bdErr at hz ⊢
    by_cases a1 : L < 0
    · exact .inl ⟨a1, by rw [if_pos (.inl a1)]⟩
    by_cases a2 : 7 < L
    · exact .inr (.inl ⟨a1, a2, by rw [if_pos (.inr a2)]⟩)
    rw [if_neg (by omega)] at hz ⊢
    by_cases a5 : 100 < nd
    · exact .inr (.inr ⟨a1, a2, a5, by rw [if_pos a5]⟩)
    · rw [if_neg a5] at hz; exact absurd rfl hz
  unfold freedV at C1 C2
  rcases hcases with ⟨a1, he⟩ | ⟨a1, a2, he⟩ | ⟨a1, a2, a5, he⟩
  all_goals
    rw [he] at C1
    try have t1 : decide (L < 0) = true := by simp only [a1, decide_true]
    try have t1 : decide (L < 0) = false := by simp only [a1, decide_false]
    try have t2 : decide (7 < L) = true := by simp only [a2, decide_true]
    try have t2 : decide (7 < L) = false := by simp only [a2, decide_false]
    try have t5 : decide ((100 : Int) < (nd : Int)) = true := by simp; omega
    try have t6 : (100 : Int) < (nd : Int) := by omega
    have C1 := hide C1
    clear hz he
    go_enter Try.func6, Try.ntmps6
    go_wp2_with fail
    refine C1.out.mono ?_
    rintro e w1 ⟨rfl, hb1⟩
    obtain ⟨g1, hg1⟩ : ∃ g, w1.heap.size = g := ⟨_, rfl⟩
    have hS1 := ((Sep.nil No w).below hb1).blkAt 49 #[.slice none 0 0, .slice none 0 0, .slice none 0 0] hg1
    obtain ⟨x1, x2, x3, _⟩ := hS1.rules 0 (g := g1) (t := 49) rfl
    have x5 := (x1 0).trans (show _ = some (.slice none 0 0) from rfl)
    have x6 := (x1 1).trans (show _ = some (.slice none 0 0) from rfl)
    have x7 := (x1 2).trans (show _ = some (.slice none 0 0) from rfl)
    have HS1 := hide hS1
    clear hb1 hS1 C1 x1
    go_wp2_with fail
    refine (C2.out _).mono ?_
    rintro e w2 ⟨rfl, hb2⟩
    have HB := hide (HS1.out.below hb2).below_
    clear hb2 HS1 C2 x2 x3 x5 x6 x7
    go_wp2_with fail
    go_ret
    exact ⟨rfl, HB.out⟩
set_option maxRecDepth 100000 in
set_option maxHeartbeats 16000000 in
theorem buddyPlays_ok (w : World) (L : Nat) (hL : L ≤ 7) (Aq : Option Addr) (nd cd : Nat) (qs : List (Int × Int)) (hwf : ∀ q ∈ qs, wfI q.2) (hQ : Rd w (fun _ => True) 2 Aq nd (askV qs)) (hnd : nd ≤ 100) :
    Calls Try.prog 6 #[.int .i64 (L : Int), .slice Aq nd cd] w fun e w' => e = .returned (.bool true) ∧ Below w.heap.size w w' := by
  have hdl : qs.length = nd := by have := hQ.1; rw [askV_length] at this; omega
  have hrun := bd_run (L := L) qs
  have C1 := hide (bdPlay_ok w L hL Aq nd cd qs hQ hnd hwf)
  have C2 := hide (fun (X : World) (hb : Below w.heap.size w X) => refFreedB_any X L hL (2 ^ L) rfl Aq nd cd qs (hQ.below hb) hnd (fun k hk => (hrun k hk).1.fyok hL (by omega)))
  have e3 := (hrun qs.length (Nat.le_refl _)).2
  rw [List.take_length] at e3
  obtain ⟨R, hR⟩ : ∃ r, runS (fbStep L) qs (fy0 (2 ^ L)) = r := ⟨_, rfl⟩
  rw [hR] at C1 C2 e3
  have e4 : (pcs R.2.tk L 0).length ≤ 256 := Nat.le_trans pcs_len (pow_le8 (show L ≤ 8 by omega))
  obtain ⟨F, hF⟩ : ∃ f, pcs R.2.tk L 0 = f := ⟨_, rfl⟩
  rw [hF] at C1 C2 e4
  obtain ⟨cs, hcs⟩ : ∃ l, R.1.map (fun e => e.1) = l := ⟨_, rfl⟩
  obtain ⟨as_, has⟩ : ∃ l, R.1.map (fun e => e.2) = l := ⟨_, rfl⟩
  simp only [hcs, has] at C1 C2
  have CS := hide (fun (X : World) (A1 A2 A3 B1 B2 B3 : Option Addr) (c1 c2 c3 d1 d2 d3 : Nat) (h1 : Rd X (fun _ => True) 1 A1 nd (ints cs)) (h2 : Rd X (fun _ => True) 1 A2 nd (ints as_)) (h3 : Rd X (fun _ => True) 2 A3 F.length (bkV F)) (k1 : Rd X (fun _ => True) 1 B1 nd (ints cs)) (k2 : Rd X (fun _ => True) 1 B2 nd (ints as_)) (k3 : Rd X (fun _ => True) 2 B3 F.length (bkV F)) => freed_any X A1 A2 A3 B1 B2 B3 nd F.length c1 c2 c3 d1 d2 d3 cs as_ F (by omega) (by omega) h1 h2 h3 k1 k2 k3)
  have t1 : decide ((L : Int) < 0) = false := by simp
  have t2 : decide ((7 : Int) < (L : Int)) = false := by simp; omega
  have t2' : decide (7 < L) = false := by simp; omega
  have t5 : decide ((100 : Int) < (nd : Int)) = false := by simp; omega
  have t5' : decide (100 < nd) = false := by simp; omega
  obtain ⟨fl, hfl⟩ : ∃ f, F.length = f := ⟨_, rfl⟩
  rw [hfl] at C1 C2 CS
  unfold freedV at C1 C2 CS
  have hp8 := pow_le8 (show L ≤ 8 by omega)
  obtain ⟨PL, hPL⟩ : ∃ x, 2 ^ L = x := ⟨_, rfl⟩
  rw [hPL] at C2 hp8
  have HPL := hide hPL
  clear hQ hwf hdl hrun e3 e4 hR hF hcs has hfl hPL
  go_enter Try.func6, Try.ntmps6
  go_wp2_with fail
  refine C1.out.mono ?_
  rintro e w1 ⟨A1, A2, A3, c1, c2, fl, c3, rfl, hb1, r1, r2, hfl, r3⟩
  subst hfl
  obtain ⟨g1, hg1⟩ : ∃ g, w1.heap.size = g := ⟨_, rfl⟩
  have hS1 := ((Sep.nil No w).below hb1).blkAt 49 #[.slice A1 nd c1, .slice A2 nd c2, .slice A3 fl c3] hg1
  obtain ⟨W1, hW1⟩ : ∃ W, w1.alloc (.cells #[.slice A1 nd c1, .slice A2 nd c2, .slice A3 fl c3] 49) = W := ⟨_, rfl⟩
  have hB1 : Below w1.heap.size w1 W1 := by rw [← hW1]; exact (Below.refl _ w1).alloc (Nat.le_refl _) _
  rw [hW1] at hS1
  obtain ⟨x1, x2, x3, _⟩ := hS1.rules 0 (g := g1) (t := 49) rfl
  have x5 := (x1 0).trans (show _ = some (.slice A1 nd c1) from rfl)
  have x6 := (x1 1).trans (show _ = some (.slice A2 nd c2) from rfl)
  have x7 := (x1 2).trans (show _ = some (.slice A3 fl c3) from rfl)
  have HR := hide (show Rd W1.drew (fun _ => True) 1 A1 nd (ints cs) ∧ Rd W1.drew (fun _ => True) 1 A2 nd (ints as_) ∧ Rd W1.drew (fun _ => True) 2 A3 fl (bkV F) from ⟨(r1.more (fun _ _ _ => trivial)).below hB1.drew, (r2.more (fun _ _ _ => trivial)).below hB1.drew, (r3.more (fun _ _ _ => trivial)).below hB1.drew⟩)
  have HS1 := hide hS1.drew
  have HW1 := hide hW1
  clear hb1 hS1 x1 r1 r2 r3 C1 hB1 hW1
  go_upto_region 2 with fail
  rw [HW1.out]
  clear HW1
  go_wp2_with fail
  go_loopw [8, 9] (fun s8 s9 wr => ∃ k pk : Nat, k ≤ L ∧ s9 = .int .i64 (k : Int) ∧ s8 = .int .i64 (pk : Int) ∧ Hid (2 ^ k = pk) ∧ wr = W1) (fun _ s9 _ => L - (intOf s9).toNat)
  case atStart => exact ⟨0, 1, by omega, rfl, rfl, hide rfl, rfl⟩
  case round =>
    obtain ⟨k, pk, hk, rfl, rfl, HK, rfl⟩ := hrel
    have hpk8 : pk ≤ 256 := by rw [← HK.out]; exact pow_le8 (by omega)
    by_cases hlt : k < L
    · have q1 : decide ((k : Int) < (L : Int)) = true := by simp; omega
      have q1' : decide (k < L) = true := by simp [hlt]
      have v1 : IntKind.i64.wrap ((pk : Int) + (pk : Int)) = ((pk + pk : Nat) : Int) := by rw [wrapF64 _ (by omega) (by omega)]; omega
      have HK2 := hide (show 2 ^ (k + 1) = pk + pk from by rw [Nat.pow_succ, HK.out]; omega)
      clear HK
      go_wp2_with fail
      exact ⟨⟨k + 1, pk + pk, by omega, by go_num, by first | rfl | go_num, HK2, by first | rfl | trivial⟩, by simp [intOf]; omega⟩
    · obtain rfl : k = L := by omega
      obtain rfl : pk = PL := by rw [← HK.out]; exact HPL.out
      have q1 : decide ((k : Int) < (k : Int)) = false := by simp
      clear HK HPL
      go_upto_region 14 with fail
      go_region_with (first
        | (go_at_call 20
           refine (C2.out _ HS1.out.below_).mono ?_
           rintro e w2 ⟨B1, B2, B3, d1, d2, fl2, d3, rfl, hb2, s1, s2, hfl2, s3⟩
           subst hfl2
           have hS2 := HS1.out.below hb2
           obtain ⟨y1, y2, y3, _⟩ := hS2.rules 0 (g := g1) (t := 49) rfl
           have y5 := (y1 0).trans (show _ = some (.slice A1 nd c1) from rfl)
           have y6 := (y1 1).trans (show _ = some (.slice A2 nd c2) from rfl)
           have y7 := (y1 2).trans (show _ = some (.slice A3 fl2 c3) from rfl)
           have HS2 := hide hS2
           have HR2 := hide (show Rd w2 (fun _ => True) 1 A1 nd (ints cs) ∧ Rd w2 (fun _ => True) 1 A2 nd (ints as_) ∧ Rd w2 (fun _ => True) 2 A3 fl2 (bkV F) from ⟨HR.out.1.below hb2, HR.out.2.1.below hb2, HR.out.2.2.below hb2⟩)
           have HR3 := hide (show Rd w2 (fun _ => True) 1 B1 nd (ints cs) ∧ Rd w2 (fun _ => True) 1 B2 nd (ints as_) ∧ Rd w2 (fun _ => True) 2 B3 fl2 (bkV F) from ⟨s1.more (fun _ _ _ => trivial), s2.more (fun _ _ _ => trivial), s3.more (fun _ _ _ => trivial)⟩)
           clear hS2 hb2 s1 s2 s3 y1 HR HS1)
        | (go_at_call 19
           refine (CS.out _ A1 A2 A3 B1 B2 B3 c1 c2 c3 d1 d2 d3 HR2.out.1 HR2.out.2.1 HR2.out.2.2 HR3.out.1 HR3.out.2.1 HR3.out.2.2).mono ?_
           rintro e w3 ⟨rfl, hb3⟩
           have HB3 := hide (HS2.out.below hb3).below_
           clear hb3))
      all_goals go_wp2_with fail
      all_goals go_ret
      all_goals exact ⟨rfl, HB3.out⟩
theorem buddyPlays_walk (w : World) (L : Int) (Aq : Option Addr) (nd cd : Nat) (qs : List (Int × Int)) (hwf : ∀ q ∈ qs, wfI q.2) (hQ : Rd w (fun _ => True) 2 Aq nd (askV qs)) :
    Calls Try.prog 6 #[.int .i64 L, .slice Aq nd cd] w fun e w' => e = .returned (.bool true) ∧ Below w.heap.size w w' := by
  by_cases hz : bdErr L nd = 0
  · unfold bdErr at hz
    by_cases a1 : L < 0 ∨ 7 < L
    · rw [if_pos a1] at hz; omega
    rw [if_neg a1] at hz
    by_cases a2 : 100 < nd
    · rw [if_pos a2] at hz; omega
    obtain ⟨n, rfl⟩ := int_nat (show 0 ≤ L from by omega)
    exact buddyPlays_ok w n (by omega) Aq nd cd qs hwf hQ (by omega)
  · exact buddyPlays_no w L Aq nd cd hz
end Go.Proofs.Ytjphckfbbiehdaa

namespace Go.Proofs.Ytjphckfbbiehdaa
open Go.ChangeShapes Go.WideShapes Go.Deep Go.RowKit
theorem block_lt_ {w : World} {a : Addr} {v : Value} (h : w.cell? a = some v) : a.block < w.heap.size := by
  unfold World.cell? at h
  split at h
  · rename_i hb; exact (Array.getElem?_eq_some_iff.1 hb).1
  · cases h
end Go.Proofs.Ytjphckfbbiehdaa

namespace Go.Proofs.Ytjphckfbbiehdaa
open Go.ChangeShapes Go.WideShapes Go.Deep Go.RowKit
theorem askV_at2 (l : List (Int × Int)) (q r : Nat) (hr : r < 2) : (askV l)[q * 2 + r]? = (l[q]?).bind fun d => [Value.int .i64 d.1, .int .i64 d.2][r]? := by
  unfold askV
  induction l generalizing q with
  | nil => rfl
  | cons a l ih =>
    rw [List.flatMap_cons]
    cases q with
    | zero => rw [List.getElem?_append_left (by simp; omega)]; simp
    | succ q => rw [List.getElem?_append_right (by simp; omega), show (q + 1) * 2 + r - [Value.int .i64 a.1, .int .i64 a.2].length = q * 2 + r by simp; omega, ih]; rfl
theorem open_asks {H : Type} {enc : TypeId × Value → H} {P : Program} {w : World} {base : Nat} {spare : Nat → Bool} {held : Bool} {t e : TypeId} {v : Value} {d : DataW H} {p : List MemPlace} {fs : Array Field}
    (ht : P.underlying t = some (.slice e)) (he : P.underlying e = some (.struct fs)) (hone : oneCellFields P fs = true) (hC : P.cellsOf e = 2) (hf : fs.size = 2)
    (hi : ∀ (j : Nat) (f : Field), fs[j]? = some f → P.underlying f.type = some (.int .i64)) {r : Reach} {bb : Nat} (hv : Value.okWide P w r bb t v) (h : DataW.Trod enc P w base spare held t v d p) :
    ∃ (A : Option Addr) (n c : Nat) (l : List (Int × Int)), v = .slice A n c ∧ n ≤ 9223372036854775807 ∧ l.length = n ∧ (∀ q ∈ l, wfI q.2) ∧ Rd w (fun _ => True) 2 A n (askV l) := by
  obtain ⟨A, n, c, rfl⟩ := okWide_slice ht hv
  obtain ⟨fuel, h⟩ := h
  rcases open_slice ht h with ⟨h0, _⟩ | ⟨a, len, cap, m, n0, D, Pl, hcs, _, hl, hm, hmm, _, hx⟩
  · simp [Value.cells] at h0
    obtain ⟨rfl, rfl, rfl⟩ := h0
    exact ⟨none, 0, 0, [], rfl, by omega, rfl, (fun q hq => by cases hq), Rd.nil⟩
  · simp [Value.cells] at hcs
    obtain ⟨rfl, rfl, rfl⟩ := hcs
    have hle : n ≤ m := by rw [hmm]; split <;> omega
    have hmx : c ≤ 9223372036854775807 := by simpa [maxLen] using hm
    have key : ∀ i, i < n → ∃ x : Int × Int, wfI x.2 ∧ w.cell? (a.add (i * 2)) = some (.int .i64 x.1) ∧ w.cell? (a.add (i * 2 + 1)) = some (.int .i64 x.2) := by
      intro i hi'
      obtain ⟨cs', h1, h2⟩ := hx i (by omega)
      rw [hC] at h1
      obtain ⟨_, hcl, hat⟩ := World.cells?_some h1
      obtain ⟨ys, n', _, _, _, hyl, hj⟩ := DataW.trod_struct he h2
      have one : ∀ j, j < 2 → ∃ k : Int, wfI k ∧ w.cell? (a.add (i * 2 + j)) = some (.int .i64 k) := by
        intro j hj3
        have hfj : fs[j]? = some (fs[j]'(by omega)) := Array.getElem?_eq_getElem (by omega)
        obtain ⟨ho, hk⟩ := hone_of hone j _ hfj
        have h3 := hj j _ hfj
        rw [ho, hk, List.getElem?_eq_getElem (by omega)] at h3
        obtain ⟨k, e0, _, hwf⟩ := DataW.trod_int (hi j _ hfj) h3
        refine ⟨k, hwf, ?_⟩
        rw [← add_of_add, hat j (by omega)]
        have e1 := congrArg (fun l => l[0]?) e0
        simpa [List.getElem?_take, List.getElem?_drop] using e1
      obtain ⟨x0, _, hx0⟩ := one 0 (by omega)
      obtain ⟨x1, hw1, hx1⟩ := one 1 (by omega)
      exact ⟨(x0, x1), hw1, hx0, hx1⟩
    obtain ⟨f, hf'⟩ := choose_lt key
    refine ⟨some a, n, c, (List.range n).map f, rfl, by omega, by simp, fun q hq => ?_, ?_, ?_⟩
    · obtain ⟨i, hi1, rfl⟩ := List.mem_map.1 hq
      exact (hf' i (List.mem_range.1 hi1)).1
    · rw [askV_length]; simp
    · intro hn
      refine ⟨a, rfl, trivial, ?_, ?_⟩
      · have := block_lt_ (hf' 0 hn).2.1
        simpa [block_of_add] using this
      · intro j u hu
        obtain ⟨q, r, hr, rfl⟩ : ∃ q r, r < 2 ∧ j = q * 2 + r := ⟨j / 2, j % 2, Nat.mod_lt _ (by omega), by omega⟩
        rw [askV_at2 _ _ _ hr] at hu
        simp only [List.getElem?_map] at hu
        rcases Nat.lt_or_ge q n with hq | hq
        case inr => rw [List.getElem?_eq_none (by simp; omega)] at hu; cases hu
        rw [List.getElem?_range hq] at hu
        simp only [Option.map_some, Option.bind_some] at hu
        obtain ⟨_, g0, g1⟩ := hf' q hq
        rcases (show r = 0 ∨ r = 1 by omega) with rfl | rfl
        · simp at hu; subst hu; simpa [add_of_add] using g0
        · simp at hu; subst hu; simpa [add_of_add] using g1
end Go.Proofs.Ytjphckfbbiehdaa
