/- The law ShareTells: the walk. Arguments that are slices, opened to lists of cells. A graph that comes in, opened. -/
import Derived.Test.YtikaaekhghcodaaSShareTells11
import Derived.Test.YtikaaekhghcodaaSShareTells15
import Derived.Test.YtikaaekhghcodaaSShareTells0
import Derived.Deep.Slices
import Derived.Deep.Fields
import Derived.ChangeSame
import Derived.Test.YtikaaekhghcodaaSShareTells2
set_option linter.unusedSimpArgs false
set_option linter.unusedVariables false
namespace Go.Proofs.Ytikaaekhghcodaa
open Go.RowKit
set_option maxRecDepth 100000 in
set_option maxHeartbeats 4000000 in
theorem shareTells_no (w : World) (AO AR : Option Addr) (nO cO nR cR : Nat) (obs : List Ob) (roots : List Val) (hO : ObsRd w (fun _ => True) AO nO obs) (hR : Rd w (fun _ => True) 2 AR nR (vals roots)) (hz : gcheck nO nR obs roots ≠ 0) :
    Calls Try.prog 4 #[.agg #[.slice AO nO cO, .slice AR nR cR]] w fun e w' => e = .returned (.bool true) ∧ Below w.heap.size w w' := by
  have hS0 := (Sep.nil No w).blkAt 25 #[.slice AO nO cO, .slice AR nR cR] rfl
  have HS0 := hide hS0
  have C1 := hide (fun w' (hb : Below w.heap.size w w') => share_bad w' AO AR nO cO nR cR obs roots hz (hO.below hb) (hR.below hb))
  have C4 := hide (fun w' (hb : Below w.heap.size w w') => refCheck_any w' AO AR nO cO nR cR obs roots (hO.below hb) (hR.below hb))
  have C6 := hide (fun w' => graphs_any w' (fun _ => True) (fun _ => True) (.agg #[.slice none 0 0, .slice none 0 0]) (.agg #[.slice none 0 0, .slice none 0 0]) [] [] (fun _ h => by cases h) (by simp) (by simp) (GraphRd.nil w' _) (GraphRd.nil w' _))
  obtain ⟨x, hx⟩ : ∃ x, gcheck nO nR obs roots = x := ⟨_, rfl⟩
  simp only [hx] at C1 C4
  rw [hx] at hz
  have y1 : (x != 0) = true := by rw [bne_iff_ne]; exact hz
  have y2 : (x == 0) = false := by simp [hz]
  obtain ⟨a1, a2, a3, a4⟩ := hS0.rules 0 (g := w.heap.size) (t := 25) rfl
  have a5 := (a1 0).trans (show _ = some (.slice AO nO cO) from rfl)
  have a6 := (a1 1).trans (show _ = some (.slice AR nR cR) from rfl)
  clear hz hx hS0 a1 a4
  go_enter Try.func4, Try.ntmps4
  go_wp2_with fail
  refine (C1.out _ HS0.out.below_).mono ?_
  rintro e w1 ⟨rfl, hb1⟩
  obtain ⟨g3, hg3⟩ : ∃ x, w1.heap.size = x := ⟨_, rfl⟩
  have hS1 := (HS0.out.below hb1).blkAt 25 #[.slice none 0 0, .slice none 0 0] hg3
  obtain ⟨a1, b2, b3, a4⟩ := hS1.rules 0 (g := w.heap.size) (t := 25) rfl
  have b5 := (a1 0).trans (show _ = some (.slice AO nO cO) from rfl)
  have b6 := (a1 1).trans (show _ = some (.slice AR nR cR) from rfl)
  have HS1 := hide hS1
  clear hS1 hb1 HS0 C1 a1 a4 a2 a3 a5 a6
  go_wp2_with fail
  refine (C4.out _ HS1.out.below_).mono ?_
  rintro e w4 ⟨rfl, hb4⟩
  have hS4 := HS1.out.below hb4
  obtain ⟨a1, a2, a3, a4⟩ := hS4.rules 1 (g := g3) (t := 25) rfl
  have a5 := (a1 0).trans (show _ = some (.slice none 0 0) from rfl)
  have a6 := (a1 1).trans (show _ = some (.slice none 0 0) from rfl)
  have HS4 := hide hS4
  clear hS4 hb4 HS1 C4 a1 a4 b2 b3 b5 b6
  go_wp2_with fail
  refine (C6.out w4).mono ?_
  rintro e w6 ⟨rfl, hb6⟩
  have HB6 := hide (HS4.out.below hb6).below_
  clear hb6 HS4
  go_wp2_with fail
  go_ret
  exact ⟨rfl, HB6.out⟩
set_option maxRecDepth 100000 in
set_option maxHeartbeats 4000000 in
theorem shareTells_ok (w : World) (AO AR : Option Addr) (nO cO nR cR : Nat) (obs : List Ob) (roots : List Val) (hO : ObsRd w (fun _ => True) AO nO obs) (hR : Rd w (fun _ => True) 2 AR nR (vals roots)) (hz : gcheck nO nR obs roots = 0) :
    Calls Try.prog 4 #[.agg #[.slice AO nO cO, .slice AR nR cR]] w fun e w' => e = .returned (.bool true) ∧ Below w.heap.size w w' := by
  have hS0 := (Sep.nil No w).blkAt 25 #[.slice AO nO cO, .slice AR nR cR] rfl
  have HS0 := hide hS0
  have hG := gok_of hO hz
  obtain ⟨gs, hgs⟩ : ∃ gs, obs.map Ob.fields = gs := ⟨_, rfl⟩
  have C1 := fun w' (hb : Below w.heap.size w w') => share_ok w' AO AR nO cO nR cR obs roots hz (hO.below hb) (hR.below hb) gs hgs
  have C4 := hide (fun w' (hb : Below w.heap.size w w') => refCheck_any w' AO AR nO cO nR cR obs roots (hO.below hb) (hR.below hb))
  have C5 := fun w' (hb : Below w.heap.size w w') => rshare_ok w' AO AR nO cO nR cR obs roots hG (hO.below hb) (hR.below hb) gs hgs
  simp only [hz] at C4
  obtain ⟨hl1, hl2, hl3⟩ := lotN_ok (apR gs) nO
  have hnO := hG.nO_
  have HF := hide (show ∀ fs ∈ outF gs (lotN (apR gs) nO).2 (lotN (apR gs) nO).1, fs.length ≤ 1000 from fun fs hfs => by
    obtain ⟨f, hf, rfl⟩ := List.mem_map.1 hfs
    rw [List.length_map, List.getD_eq_getElem?_getD]
    cases hg : gs[f]? with
    | none => simp
    | some v => have := hG.fs v (by rw [hgs]; exact List.mem_of_getElem? hg); simp; omega)
  have HFL := hide (show (outF gs (lotN (apR gs) nO).2 (lotN (apR gs) nO).1).length ≤ 1000 from by unfold outF; rw [List.length_map]; omega)
  have HRL := hide (show (roots.map (turnV (lotN (apR gs) nO).2)).length ≤ 1000 from by
    rw [List.length_map]
    have h1 := hR.1
    rw [vals_length] at h1
    have := hG.nR_
    omega)
  obtain ⟨lt, hlt⟩ : ∃ s, lotN (apR gs) nO = s := ⟨_, rfl⟩
  rw [hlt] at HF HFL HRL hl1 C1 C5
  obtain ⟨fss, hfss⟩ : ∃ s, outF gs lt.2 lt.1 = s := ⟨_, rfl⟩
  obtain ⟨rts, hrts⟩ : ∃ s, roots.map (turnV lt.2) = s := ⟨_, rfl⟩
  obtain ⟨lot, hlot⟩ : ∃ s, lt.2 = s := ⟨_, rfl⟩
  rw [hfss] at HF HFL C1 C5
  rw [hrts] at HRL C1 C5
  rw [hlot] at hl1 C1 C5
  have C1 := hide C1
  have C5 := hide C5
  obtain ⟨a1, a2, a3, a4⟩ := hS0.rules 0 (g := w.heap.size) (t := 25) rfl
  have a5 := (a1 0).trans (show _ = some (.slice AO nO cO) from rfl)
  have a6 := (a1 1).trans (show _ = some (.slice AR nR cR) from rfl)
  clear hz hS0 hG a1 a4 hl2 hl3 hgs hlt hfss hrts hlot
  go_enter Try.func4, Try.ntmps4
  go_wp2_with fail
  refine (C1.out _ HS0.out.below_).mono ?_
  rintro e w1 ⟨v, Al, cl, rfl, hb1, hg1, hr1⟩
  obtain ⟨A1, n1, c1, A2, n2, c2, ob1, hv, _⟩ := hg1.ex
  subst hv
  obtain ⟨g3, hg3⟩ : ∃ x, w1.heap.size = x := ⟨_, rfl⟩
  have hS1 := (HS0.out.below hb1).blkAt 25 #[.slice A1 n1 c1, .slice A2 n2 c2] hg3
  obtain ⟨a1, b2, b3, a4⟩ := hS1.rules 0 (g := w.heap.size) (t := 25) rfl
  have b5 := (a1 0).trans (show _ = some (.slice AO nO cO) from rfl)
  have b6 := (a1 1).trans (show _ = some (.slice AR nR cR) from rfl)
  have hbx : Below w1.heap.size w1 (w1.alloc (.cells #[.slice A1 n1 c1, .slice A2 n2 c2] 25)) := (Below.refl _ w1).alloc (Nat.le_refl _) _
  have HS1 := hide hS1
  have HG1 := hide (hg1.below hbx)
  have HR1 := hide (hr1.below hbx)
  clear hS1 hb1 HS0 C1 a1 a4 a2 a3 a5 a6 hg1 hr1 hbx
  go_wp2_with fail
  refine (C4.out _ HS1.out.below_).mono ?_
  rintro e w4 ⟨rfl, hb4⟩
  have hS4 := HS1.out.below hb4
  obtain ⟨a1, a2, a3, a4⟩ := hS4.rules 0 (g := w.heap.size) (t := 25) rfl
  have a5 := (a1 0).trans (show _ = some (.slice AO nO cO) from rfl)
  have a6 := (a1 1).trans (show _ = some (.slice AR nR cR) from rfl)
  have HS4 := hide hS4
  have HG4 := hide (HG1.out.below hb4)
  have HR4 := hide (HR1.out.below hb4)
  clear hS4 hb4 HS1 C4 a1 a4 b2 b3 b5 b6 HG1 HR1
  go_wp2_with fail
  refine (C5.out _ HS4.out.below_).mono ?_
  rintro e w5 ⟨v5, Al5, cl5, rfl, hb5, hg5, hr5⟩
  obtain ⟨B1, m1, d1, B2, m2, d2, ob2, hv, _⟩ := hg5.ex
  subst hv
  obtain ⟨g7, hg7⟩ : ∃ x, w5.heap.size = x := ⟨_, rfl⟩
  have hS5 := (HS4.out.below hb5).blkAt 25 #[.slice B1 m1 d1, .slice B2 m2 d2] hg7
  have hbx : Below w5.heap.size w5 (w5.alloc (.cells #[.slice B1 m1 d1, .slice B2 m2 d2] 25)) := (Below.refl _ w5).alloc (Nat.le_refl _) _
  obtain ⟨b1, b2, b3, b4⟩ := hS5.rules 1 (g := g3) (t := 25) rfl
  have b5 := (b1 0).trans (show _ = some (.slice A1 n1 c1) from rfl)
  have b6 := (b1 1).trans (show _ = some (.slice A2 n2 c2) from rfl)
  have C6 := hide (graphs_any _ _ _ _ _ fss rts HF.out HFL.out HRL.out ((HG4.out.below hb5).below hbx) (hg5.below hbx))
  have HS5 := hide hS5
  have HR5 := hide ((HR4.out.below hb5).below hbx)
  have HR6 := hide (hr5.below hbx)
  clear hS5 hb5 HS4 C5 HG4 HR4 hg5 hr5 a2 a3 a5 a6 b1 b4
  go_wp2_with fail
  refine C6.out.mono ?_
  rintro e w6 ⟨rfl, hb6⟩
  have hS6 := HS5.out.below hb6
  have C7 := hide (ints_same w6 _ _ Al Al5 nO cl cl5 (lot.map fun k : Nat => (k : Int)) (by omega) (HR5.out.below hb6) (HR6.out.below hb6))
  have HS6 := hide hS6
  clear hS6 hb6 HS5 C6 HR5 HR6
  go_wp2_with fail
  refine C7.out.mono ?_
  rintro e w7 ⟨rfl, hb7⟩
  have HB7 := hide (HS6.out.below hb7).below_
  clear hb7 HS6
  go_wp2_with fail
  go_ret
  exact ⟨rfl, HB7.out⟩
theorem shareTells_walk (w : World) (AO AR : Option Addr) (nO cO nR cR : Nat) (obs : List Ob) (roots : List Val) (hO : ObsRd w (fun _ => True) AO nO obs) (hR : Rd w (fun _ => True) 2 AR nR (vals roots)) :
    Calls Try.prog 4 #[.agg #[.slice AO nO cO, .slice AR nR cR]] w fun e w' => e = .returned (.bool true) ∧ Below w.heap.size w w' := by
  by_cases hz : gcheck nO nR obs roots = 0
  · exact shareTells_ok w AO AR nO cO nR cR obs roots hO hR hz
  · exact shareTells_no w AO AR nO cO nR cR obs roots hO hR hz
end Go.Proofs.Ytikaaekhghcodaa

namespace Go.Proofs.Ytikaaekhghcodaa
open Go.ChangeShapes Go.WideShapes Go.Deep Go.RowKit
theorem block_lt_ {w : World} {a : Addr} {v : Value} (h : w.cell? a = some v) : a.block < w.heap.size := by
  unfold World.cell? at h
  split at h
  · rename_i hb; exact (Array.getElem?_eq_some_iff.1 hb).1
  · cases h
end Go.Proofs.Ytikaaekhghcodaa

namespace Go.Proofs.Ytikaaekhghcodaa
open Go.ChangeShapes Go.WideShapes Go.Deep Go.RowKit
theorem vals_at_ (l : List Val) (q r : Nat) (hr : r < 2) : (vals l)[q * 2 + r]? = (l[q]?).bind fun d => [Value.bool d.1, .int .i64 d.2][r]? := by
  unfold vals
  induction l generalizing q with
  | nil => rfl
  | cons a l ih =>
    rw [List.flatMap_cons]
    cases q with
    | zero => rw [List.getElem?_append_left (by simp; omega)]; simp
    | succ q => rw [List.getElem?_append_right (by simp; omega), show (q + 1) * 2 + r - [Value.bool a.1, .int .i64 a.2].length = q * 2 + r by simp; omega, ih]; rfl
section
variable {H : Type} {enc : TypeId × Value → H} {P : Program} {w : World} {base : Nat} {spare : Nat → Bool} {held : Bool}
/-- A slice of structs of a bool and an int. -/
theorem trod_vals {t e : TypeId} {f0 f1 : Field} {fuel : Nat} {cs : List Value} {x : DataW H × List MemPlace} (ht : P.underlying t = some (.slice e)) (he : P.underlying e = some (.struct #[f0, f1])) (hone : oneCellFields P #[f0, f1] = true) (hC : P.cellsOf e = 2)
    (i0 : P.underlying f0.type = some .bool) (i1 : P.underlying f1.type = some (.int .i64)) (h : DataW.trod enc P w base spare held fuel t cs = some x) :
    ∃ (A : Option Addr) (n c : Nat) (l : List Val), cs = [.slice A n c] ∧ n ≤ 9223372036854775807 ∧ Rd w (fun _ => True) 2 A n (vals l) := by
  rcases open_slice ht h with ⟨h0, _⟩ | ⟨a, n, c, m, n0, D, Pl, rfl, _, hl, hm, hmm, _, hx⟩
  · exact ⟨none, 0, 0, [], h0, by omega, Rd.nil⟩
  · have hle : n ≤ m := by rw [hmm]; split <;> omega
    have hmx : c ≤ 9223372036854775807 := by simpa [maxLen] using hm
    have key : ∀ i, i < n → ∃ x : Val, w.cell? (a.add (i * 2)) = some (.bool x.1) ∧ w.cell? (a.add (i * 2 + 1)) = some (.int .i64 x.2) := by
      intro i hi'
      obtain ⟨cs', h1, h2⟩ := hx i (by omega)
      rw [hC] at h1
      obtain ⟨_, hcl, hat⟩ := World.cells?_some h1
      obtain ⟨y0, y1, n', _, _, hj0, hj1⟩ := trod_struct2 he h2
      obtain ⟨o0, k0⟩ := hone_of hone 0 f0 rfl
      obtain ⟨o1, k1⟩ := hone_of hone 1 f1 rfl
      rw [o0, k0] at hj0
      rw [o1, k1] at hj1
      obtain ⟨b, e0, _⟩ := DataW.trod_bool i0 hj0
      obtain ⟨k, e1, _, _⟩ := DataW.trod_int i1 hj1
      refine ⟨(b, k), ?_, ?_⟩
      · have h3 := hat 0 (by omega)
        have e2 := congrArg (fun l => l[0]?) e0
        have e3 : cs'[0]? = some (.bool b) := by simpa [List.getElem?_take, List.getElem?_drop] using e2
        rw [← e3, ← h3, add_of_add, Nat.add_zero]
      · have h3 := hat 1 (by omega)
        have e2 := congrArg (fun l => l[0]?) e1
        have e3 : cs'[1]? = some (.int .i64 k) := by simpa [List.getElem?_take, List.getElem?_drop] using e2
        rw [← e3, ← h3, add_of_add]
    obtain ⟨f, hf'⟩ := choose_lt key
    refine ⟨some a, n, c, (List.range n).map f, rfl, by omega, ?_, ?_⟩
    · rw [vals_length]; simp
    · intro hn
      refine ⟨a, rfl, trivial, ?_, ?_⟩
      · have := block_lt_ (hf' 0 hn).1
        simpa [block_of_add] using this
      · intro j u hu
        obtain ⟨q, r, hr, rfl⟩ : ∃ q r, r < 2 ∧ j = q * 2 + r := ⟨j / 2, j % 2, Nat.mod_lt _ (by omega), by omega⟩
        rw [vals_at_ _ _ _ hr] at hu
        simp only [List.getElem?_map] at hu
        rcases Nat.lt_or_ge q n with hq | hq
        case inr => rw [List.getElem?_eq_none (by simp; omega)] at hu; cases hu
        rw [List.getElem?_range hq] at hu
        simp only [Option.map_some, Option.bind_some] at hu
        obtain ⟨g0, g1⟩ := hf' q hq
        rcases (show r = 0 ∨ r = 1 by omega) with rfl | rfl
        · simp at hu; subst hu; simpa using g0
        · simp at hu; subst hu; exact g1
/-- A slice of structs of one such slice. -/
theorem trod_objs {t e tf te : TypeId} {f f0 f1 : Field} {fuel : Nat} {cs : List Value} {x : DataW H × List MemPlace} (ht : P.underlying t = some (.slice e)) (he : P.underlying e = some (.struct #[f])) (hone1 : oneCellFields P #[f] = true) (hC1 : P.cellsOf e = 1) (hft : f.type = tf)
    (htf : P.underlying tf = some (.slice te)) (hte : P.underlying te = some (.struct #[f0, f1])) (hone : oneCellFields P #[f0, f1] = true) (hC : P.cellsOf te = 2)
    (i0 : P.underlying f0.type = some .bool) (i1 : P.underlying f1.type = some (.int .i64)) (h : DataW.trod enc P w base spare held fuel t cs = some x) :
    ∃ (A : Option Addr) (n c : Nat) (l : List Ob), cs = [.slice A n c] ∧ n ≤ 9223372036854775807 ∧ ObsRd w (fun _ => True) A n l := by
  rcases open_slice1 ht hC1 h with ⟨h0, _⟩ | ⟨a, n, c, m, n0, V, D, Pl, rfl, _, hl, hm, hmm, _, hx⟩
  · exact ⟨none, 0, 0, [], h0, by omega, ⟨Rd.nil, fun o ho => by cases ho⟩⟩
  · have hle : n ≤ m := by rw [hmm]; split <;> omega
    have hmx : c ≤ 9223372036854775807 := by simpa [maxLen] using hm
    have key : ∀ i, i < n → ∃ o : Ob, w.cell? (a.add i) = some o.val ∧ Rd w (fun _ => True) 2 o.A o.n (vals o.fields) := by
      intro i hi'
      obtain ⟨h1, h2⟩ := hx i (by omega)
      obtain ⟨y0, n', _, _, hj0⟩ := trod_struct1 he h2
      obtain ⟨o0, k0⟩ := hone_of hone1 0 f rfl
      rw [o0, k0, hft] at hj0
      obtain ⟨A', n1, c1, l1, e1, _, hr⟩ := trod_vals htf hte hone hC i0 i1 hj0
      refine ⟨⟨A', n1, c1, l1⟩, ?_, hr⟩
      have e2 := congrArg (fun l => l[0]?) e1
      have e3 : V i = .slice A' n1 c1 := by simpa using e2
      rw [h1, e3]; rfl
    haveI : Inhabited Ob := ⟨⟨none, 0, 0, []⟩⟩
    obtain ⟨g, hg⟩ := choose_lt key
    refine ⟨some a, n, c, (List.range n).map g, rfl, by omega, ⟨⟨by simp, fun hn => ⟨a, rfl, trivial, ?_, ?_⟩⟩, fun o ho => ?_⟩⟩
    · have := block_lt_ (hg 0 hn).1
      simpa [block_of_add] using this
    · intro j u hu
      simp only [List.getElem?_map] at hu
      rcases Nat.lt_or_ge j n with hq | hq
      case inr => rw [List.getElem?_eq_none (by simp; omega)] at hu; cases hu
      rw [List.getElem?_range hq] at hu
      simp at hu
      subst hu
      exact (hg j hq).1
    · obtain ⟨j, hj, rfl⟩ := List.mem_map.1 ho
      exact (hg j (List.mem_range.1 hj)).2
end
end Go.Proofs.Ytikaaekhghcodaa
