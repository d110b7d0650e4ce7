/- A graph that comes in, opened; its objects' fields lie in slices that are no longer than their room. The walk of the law on a memory without end. A script that comes in: a slice of structs of five numbers. -/
import Derived.Test.YtjphckfbbiehdaaGIdealPlays19
import Derived.Test.YtjphckfbbiehdaaGIdealPlays18
set_option linter.unusedSimpArgs false
set_option linter.unusedVariables false
namespace Go.Proofs.Ytjphckfbbiehdaa
open Go.ChangeShapes Go.WideShapes Go.Deep Go.RowKit

def Caps (obs : List Ob) : Prop := ∀ o ∈ obs, o.n ≤ o.c ∧ (o.A = none → o.c = 0)
section
variable {H : Type} {enc : TypeId × Value → H} {P : Program} {w : World} {base : Nat} {spare : Nat → Bool} {held : Bool}
theorem trod_valsC {t e : TypeId} {f0 f1 : Field} {fuel : Nat} {cs : List Value} {x : DataW H × List MemPlace} (ht : P.underlying t = some (.slice e)) (he : P.underlying e = some (.struct #[f0, f1])) (hone : oneCellFields P #[f0, f1] = true) (hC : P.cellsOf e = 2)
    (i0 : P.underlying f0.type = some .bool) (i1 : P.underlying f1.type = some (.int .i64)) (h : DataW.trod enc P w base spare held fuel t cs = some x) :
    ∃ (A : Option Addr) (n c : Nat) (l : List Val), cs = [.slice A n c] ∧ (n ≤ c ∧ (A = none → c = 0)) ∧ Rd w (fun _ => True) 2 A n (vals l) := by
  obtain ⟨A, n, c, l, e1, _, hr⟩ := trod_vals ht he hone hC i0 i1 h
  refine ⟨A, n, c, l, e1, ?_, hr⟩
  rcases open_slice ht h with ⟨h0, _⟩ | ⟨a, n', c', m, n0, D, Pl, h0, _, hl, hm, hmm, _, hx⟩
  · rw [e1] at h0
    simp at h0
    exact ⟨by omega, fun _ => h0.2.2⟩
  · rw [e1] at h0
    simp at h0
    exact ⟨by omega, fun h => by rw [h] at h0; simp at h0⟩
theorem trod_objsC {t e tf te : TypeId} {f f0 f1 : Field} {fuel : Nat} {cs : List Value} {x : DataW H × List MemPlace} (ht : P.underlying t = some (.slice e)) (he : P.underlying e = some (.struct #[f])) (hone1 : oneCellFields P #[f] = true) (hC1 : P.cellsOf e = 1) (hft : f.type = tf)
    (htf : P.underlying tf = some (.slice te)) (hte : P.underlying te = some (.struct #[f0, f1])) (hone : oneCellFields P #[f0, f1] = true) (hC : P.cellsOf te = 2)
    (i0 : P.underlying f0.type = some .bool) (i1 : P.underlying f1.type = some (.int .i64)) (h : DataW.trod enc P w base spare held fuel t cs = some x) :
    ∃ (A : Option Addr) (n c : Nat) (l : List Ob), cs = [.slice A n c] ∧ n ≤ 9223372036854775807 ∧ ObsRd w (fun _ => True) A n l ∧ Caps l := by
  rcases open_slice1 ht hC1 h with ⟨h0, _⟩ | ⟨a, n, c, m, n0, V, D, Pl, rfl, _, hl, hm, hmm, _, hx⟩
  · exact ⟨none, 0, 0, [], h0, by omega, ⟨Rd.nil, fun o ho => by cases ho⟩, fun o ho => by cases ho⟩
  · have hle : n ≤ m := by rw [hmm]; split <;> omega
    have hmx : c ≤ 9223372036854775807 := by simpa [maxLen] using hm
    have key : ∀ i, i < n → ∃ o : Ob, w.cell? (a.add i) = some o.val ∧ Rd w (fun _ => True) 2 o.A o.n (vals o.fields) ∧ (o.n ≤ o.c ∧ (o.A = none → o.c = 0)) := by
      intro i hi'
      obtain ⟨h1, h2⟩ := hx i (by omega)
      obtain ⟨y0, n', _, _, hj0⟩ := trod_struct1 he h2
      obtain ⟨o0, k0⟩ := hone_of hone1 0 f rfl
      rw [o0, k0, hft] at hj0
      obtain ⟨A', n1, c1, l1, e1, hnc, hr⟩ := trod_valsC htf hte hone hC i0 i1 hj0
      refine ⟨⟨A', n1, c1, l1⟩, ?_, hr, hnc⟩
      have e2 := congrArg (fun l => l[0]?) e1
      have e3 : V i = .slice A' n1 c1 := by simpa using e2
      rw [h1, e3]; rfl
    haveI : Inhabited Ob := ⟨⟨none, 0, 0, []⟩⟩
    obtain ⟨g, hg⟩ := choose_lt key
    refine ⟨some a, n, c, (List.range n).map g, rfl, by omega, ⟨⟨by simp, fun hn => ⟨a, rfl, trivial, ?_, ?_⟩⟩, fun o ho => ?_⟩, fun o ho => ?_⟩
    · have := block_lt_ (hg 0 hn).1
      simpa [block_of_add] using this
    · intro j u hu
      simp only [List.getElem?_map] at hu
      rcases Nat.lt_or_ge j n with hq | hq
      case inr => rw [List.getElem?_eq_none (by simp; omega)] at hu; cases hu
      rw [List.getElem?_range hq] at hu
      simp at hu
      subst hu
      exact (hg j hq).1
    · obtain ⟨j, hj, rfl⟩ := List.mem_map.1 ho
      exact (hg j (List.mem_range.1 hj)).2.1
    · obtain ⟨j, hj, rfl⟩ := List.mem_map.1 ho
      exact (hg j (List.mem_range.1 hj)).2.2
end
end Go.Proofs.Ytjphckfbbiehdaa

namespace Go.Proofs.Ytjphckfbbiehdaa
open Go.RowKit

theorem fields_le4 {gs : List (List Val)} {m : Nat} (h : ∀ fs ∈ gs, fs.length ≤ m) (x : Int) : (fieldsI gs x).length ≤ m := by
  unfold fieldsI
  rw [List.getD_eq_getElem?_getD]
  rcases Nat.lt_or_ge x.toNat gs.length with h1 | h1
  · rw [List.getElem?_eq_getElem h1]; exact h _ (List.getElem_mem h1)
  · rw [List.getElem?_eq_none h1]; simp
theorem playErr_eq (nO nR nd : Nat) (obs : List Ob) (roots : List Val) (h : gcheck nO nR obs roots = 0) : playErr nO nR nd obs roots = if 100 < nd then 1 else 0 := by
  unfold playErr; rw [if_neg (by omega)]
set_option maxRecDepth 100000 in
set_option maxHeartbeats 8000000 in
theorem idealPlays_no (w : World) (AO AR Ad : Option Addr) (nO cO nR cR nd cd : Nat) (obs : List Ob) (roots : List Val) (hO : ObsRd w (fun _ => True) AO nO obs) (hR : Rd w (fun _ => True) 2 AR nR (vals roots)) (hz : playErr nO nR nd obs roots ≠ 0) :
    Calls Try.prog 10 #[.agg #[.slice AO nO cO, .slice AR nR cR], .slice Ad nd cd] w fun e w' => e = .returned (.bool true) ∧ Below w.heap.size w w' := by
  obtain ⟨g, hg⟩ : ∃ g, w.heap.size = g := ⟨_, rfl⟩
  have hS0 := (Sep.nil No w).blkAt 27 #[.slice AO nO cO, .slice AR nR cR] hg
  obtain ⟨a1, a2, a3, a4⟩ := hS0.rules 0 (g := g) (t := 27) rfl
  have C1 := hide (idealPlay_no _ AO AR Ad nO cO nR cR nd cd obs roots (hO.below hS0.below_) (hR.below hS0.below_) hz)
  have C4 := hide (fun w' (hb : Below w.heap.size w w') => refCheck_any w' AO AR nO cO nR cR obs roots (hO.below hb) (hR.below hb))
  have C6 := hide (fun (w' : World) => graphs_any w' (fun _ => True) (fun _ => True) (.agg #[.slice none 0 0, .slice none 0 0]) (.agg #[.slice none 0 0, .slice none 0 0]) [] [] (by simp) (by simp) (by simp) (GraphRd.nil _ _) (GraphRd.nil _ _))
  have HS0 := hide hS0
  obtain ⟨x, hx⟩ : ∃ x, playErr nO nR nd obs roots = x := ⟨_, rfl⟩
  rw [hx] at C1 hz
  by_cases hg0 : gcheck nO nR obs roots = 0
  · have hpe := playErr_eq nO nR nd obs roots hg0
    rw [hx] at hpe
    simp only [hg0] at C4
    have hnd : 100 < nd := by
      rcases Nat.lt_or_ge 100 nd with h | h
      · exact h
      · rw [if_neg (by omega)] at hpe; exact absurd hpe hz
    rw [if_pos hnd] at hpe
    subst hpe
    have t1 : decide ((100 : Int) < (nd : Int)) = true := by simp; omega
    have t2 : decide (100 < nd) = true := by simp; omega
    clear hS0 a4 hO hR hz hx hg0
    go_enter Try.func10, Try.ntmps10
    go_wp2_with fail
    refine C1.out.mono ?_
    rintro e w1 ⟨rfl, hb1⟩
    have hS1 := (HS0.out.below hb1).blkAt 27 #[.slice none 0 0, .slice none 0 0] (g := w1.heap.size) rfl
    obtain ⟨b1, b2, b3, b4⟩ := hS1.rules 0 (g := g) (t := 27) rfl
    have C4 := hide (C4.out _ hS1.below_)
    have HS1 := hide hS1
    clear hb1 hS1 HS0 C1 a1 a2 a3 b4
    go_wp2_with fail
    refine C4.out.mono ?_
    rintro e w4 ⟨rfl, hb4⟩
    have hS4 := HS1.out.below hb4
    obtain ⟨d1, d2, d3, d4⟩ := hS4.rules 1 (g := w1.heap.size) (t := 27) rfl
    have HS4 := hide hS4
    clear hb4 hS4 HS1 C4 b1 b2 b3 d4
    go_wp2_with fail
    refine (C6.out w4).mono ?_
    rintro e w6 ⟨rfl, hb6⟩
    have HB6 := hide (HS4.out.below hb6).below_
    clear hb6 HS4
    go_wp2_with fail
    go_ret
    exact ⟨rfl, HB6.out⟩
  · have hpe : x = gcheck nO nR obs roots := by rw [← hx]; unfold playErr; rw [if_pos hg0]
    simp only [← hpe] at C4
    have y1 : (x != 0) = true := by rw [bne_iff_ne]; exact hz
    have y2 : (x == 0) = false := by simp [hz]
    clear hS0 a4 hO hR hz hx hg0 hpe
    go_enter Try.func10, Try.ntmps10
    go_wp2_with fail
    refine C1.out.mono ?_
    rintro e w1 ⟨rfl, hb1⟩
    have hS1 := (HS0.out.below hb1).blkAt 27 #[.slice none 0 0, .slice none 0 0] (g := w1.heap.size) rfl
    obtain ⟨b1, b2, b3, b4⟩ := hS1.rules 0 (g := g) (t := 27) rfl
    have C4 := hide (C4.out _ hS1.below_)
    have HS1 := hide hS1
    clear hb1 hS1 HS0 C1 a1 a2 a3 b4
    go_wp2_with fail
    refine C4.out.mono ?_
    rintro e w4 ⟨rfl, hb4⟩
    have hS4 := HS1.out.below hb4
    obtain ⟨d1, d2, d3, d4⟩ := hS4.rules 1 (g := w1.heap.size) (t := 27) rfl
    have HS4 := hide hS4
    clear hb4 hS4 HS1 C4 b1 b2 b3 d4
    go_wp2_with fail
    refine (C6.out w4).mono ?_
    rintro e w6 ⟨rfl, hb6⟩
    have HB6 := hide (HS4.out.below hb6).below_
    clear hb6 HS4
    go_wp2_with fail
    go_ret
    exact ⟨rfl, HB6.out⟩

set_option maxRecDepth 100000 in
set_option maxHeartbeats 8000000 in
theorem idealPlays_ok (w : World) (AO AR Ad : Option Addr) (nO cO nR cR nd cd : Nat) (obs : List Ob) (roots : List Val) (ds : List DoV) (hcp : ∀ o ∈ obs, o.A = none → o.c = 0) (hO : ObsRd w (fun _ => True) AO nO obs) (hR : Rd w (fun _ => True) 2 AR nR (vals roots)) (hD : Rd w (fun _ => True) 5 Ad nd (dosV ds)) (hz : playErr nO nR nd obs roots = 0) :
    Calls Try.prog 10 #[.agg #[.slice AO nO cO, .slice AR nR cR], .slice Ad nd cd] w fun e w' => e = .returned (.bool true) ∧ Below w.heap.size w w' := by
  obtain ⟨hx, hnd⟩ : gcheck nO nR obs roots = 0 ∧ nd ≤ 100 := by
    unfold playErr at hz
    split at hz
    · rename_i h; exact absurd hz h
    · rename_i h
      split at hz
      · omega
      · exact ⟨by omega, by omega⟩
  have hG := gok_of hO hx
  obtain ⟨gs, hgs⟩ : ∃ gs, obs.map Ob.fields = gs := ⟨_, rfl⟩
  have hM : MOk ⟨padR roots nR, gs⟩ := by
    have h1 := hG.vg
    have h2 := hG.vr
    have h3 := hG.fs
    rw [hgs] at h1 h2 h3
    exact ⟨padR_len roots nR (by have := roots_len hR; omega) hG.nR_, padR_ok h2 nR, h1, h3⟩
  obtain ⟨g, hg⟩ : ∃ g, w.heap.size = g := ⟨_, rfl⟩
  have hS0 := (Sep.nil No w).blkAt 27 #[.slice AO nO cO, .slice AR nR cR] hg
  obtain ⟨a1, a2, a3, a4⟩ := hS0.rules 0 (g := g) (t := 27) rfl
  have C1 := hide (idealPlay_ok _ AO AR Ad nO cO nR cR nd cd obs roots gs ds hgs (hO.below hS0.below_) (hR.below hS0.below_) hcp hz hM (hD.below hS0.below_))
  have C4 := hide (fun w' (hb : Below w.heap.size w w') => refCheck_any w' AO AR nO cO nR cR obs roots (hO.below hb) (hR.below hb))
  simp only [hx] at C4
  have C5 := hide (fun w' (hb : Below w.heap.size w w') => refIdeal_any w' AO AR Ad nO cO nR cR nd cd obs roots gs ds hgs (hO.below hb) (hR.below hb) hG.nO_ hG.nR_ hG.fl hM (hD.below hb) hnd)
  have HL := hide (show (outsV (runM ds ⟨padR roots nR, gs⟩).1).length = nd * 3 by rw [outsV_length, (runM_ok ds hM).2.2]; have h := hD.1; rw [dosV_length] at h; omega)
  obtain ⟨hm1, hm2, _⟩ := runM_ok ds hM
  have hol : (runM ds ⟨padR roots nR, gs⟩).2.objs.length ≤ 200 := by
    have h1 : ds.length = nd := by have h := hD.1; rw [dosV_length] at h; omega
    have h2 : gs.length ≤ 24 := by rw [← hgs, hG.len]; exact hG.nO_
    have h3 : (runM ds ⟨padR roots nR, gs⟩).2.objs.length ≤ gs.length + ds.length := hm2
    omega
  have hoo := order_ok hm1.vo hm1.vr
  obtain ⟨R, hRn⟩ : ∃ r, runM ds ⟨padR roots nR, gs⟩ = r := ⟨_, rfl⟩
  simp only [hRn] at C1 C5 HL hm1 hol hoo
  obtain ⟨FF, hFF⟩ : ∃ F, renumF R.2.objs (order R.2.objs R.2.regs) = F := ⟨_, rfl⟩
  obtain ⟨RR, hRR⟩ : ∃ F, R.2.regs.map (turnL (order R.2.objs R.2.regs)) = F := ⟨_, rfl⟩
  simp only [hFF, hRR] at C1 C5
  have C10 := hide (fun (X : World) (D : Nat → Prop) (v v2 : Value) (h1 : GraphRd X D v FF RR) (h2 : GraphRd X (fun g => True) v2 FF RR) => graphs_any X D (fun _ => True) v v2 FF RR (fun fs hfs => by
      rw [← hFF] at hfs
      unfold renumF at hfs
      obtain ⟨x, _, rfl⟩ := List.mem_map.1 hfs
      rw [List.length_map]
      have : (fieldsI R.2.objs x).length ≤ 4 := fields_le4 hm1.f4 x
      omega) (by rw [← hFF]; unfold renumF; rw [List.length_map]; have := hoo.len; omega) (by rw [← hRR, List.length_map, hm1.r8]; omega) h1 h2)
  have C9 := hide (fun (X : World) (A1 A2 : Option Addr) (c1 c2 : Nat) (h1 : Rd X (fun _ => True) 3 A1 nd (outsV R.1)) (h2 : Rd X (fun _ => True) 3 A2 nd (outsV R.1)) => outs_any X A1 A2 nd c1 c2 R.1 (by omega) h1 h2)
  have HS0 := hide hS0
  have t1 : decide ((100 : Int) < (nd : Int)) = false := by simp; omega
  have t2 : decide (100 < nd) = false := by simp; omega
  clear hS0 a4 hO hR hz hx hG hM hD hgs hm1 hm2 hol hoo hRn hFF hRR hcp
  go_enter Try.func10, Try.ntmps10
  go_wp2_with fail
  refine C1.out.mono ?_
  rintro e w1 ⟨A1, c1, v1, rfl, hb1, hr1, hg1⟩
  obtain ⟨B1, n1, d1, B2, n2, d2, obs1, rfl, _, _, _⟩ := hg1.ex
  obtain ⟨b9, hb9⟩ : ∃ x, w1.heap.size = x := ⟨_, rfl⟩
  have hS1 := (HS0.out.below hb1).blkAt 27 #[.slice B1 n1 d1, .slice B2 n2 d2] hb9
  have hW : Below w1.heap.size w1 (w1.alloc (.cells #[.slice B1 n1 d1, .slice B2 n2 d2] 27)) := (Below.refl _ w1).alloc (Nat.le_refl _) _
  have HG1 := hide (hg1.below hW)
  have HR1 := hide (hr1.below hW)
  obtain ⟨b1, b2, b3, b4⟩ := hS1.rules 0 (g := g) (t := 27) rfl
  have C4 := hide (C4.out _ hS1.below_)
  have HS1 := hide hS1
  clear hb1 hS1 HS0 C1 a1 a2 a3 b4 hr1 hg1 hW
  go_wp2_with fail
  refine C4.out.mono ?_
  rintro e w4 ⟨rfl, hb4⟩
  have hS4 := HS1.out.below hb4
  have HG4 := hide (HG1.out.below hb4)
  have HR4 := hide (HR1.out.below hb4)
  have C5 := hide (C5.out _ hS4.below_)
  obtain ⟨x1, x2, x3, x4⟩ := hS4.rules 0 (g := g) (t := 27) rfl
  have HS4 := hide hS4
  clear hb4 hS4 HS1 C4 b1 b2 b3 x4 HG1 HR1
  go_wp2_with fail
  refine C5.out.mono ?_
  rintro e w5 ⟨A2, n5, c2, v2, rfl, hb5, hr5, hg5⟩
  have hn5 : n5 = nd := by have h := hr5.1; have h2 := HL.out; omega
  subst hn5
  obtain ⟨E1, m1, k1, E2, m2, k2, obs2, rfl, _, _, _⟩ := hg5.ex
  obtain ⟨b10, hb10⟩ : ∃ x, w5.heap.size = x := ⟨_, rfl⟩
  have hS5 := (HS4.out.below hb5).blkAt 27 #[.slice E1 m1 k1, .slice E2 m2 k2] hb10
  have hW : Below w5.heap.size w5 (w5.alloc (.cells #[.slice E1 m1 k1, .slice E2 m2 k2] 27)) := (Below.refl _ w5).alloc (Nat.le_refl _) _
  have HG5 := hide ((HG4.out.below hb5).below hW)
  have HG6 := hide (hg5.below hW)
  have C9 := hide (C9.out _ A1 A2 c1 c2 (((HR4.out.below hb5).below hW).more (fun _ _ _ => trivial)) ((hr5.below hW).more (fun _ _ _ => trivial)))
  have HS5 := hide hS5
  clear hb5 hS5 HS4 C5 x1 x2 x3 hr5 hg5 hW HG4 HR4
  go_wp2_with fail
  refine C9.out.mono ?_
  rintro e w6 ⟨rfl, hb6⟩
  have hS6 := HS5.out.below hb6
  have C10 := hide (C10.out w6 _ _ _ (HG5.out.below hb6) ((HG6.out.below hb6).more (fun _ _ _ => trivial)))
  obtain ⟨x1, x2, x3, x4⟩ := hS6.rules 1 (g := b9) (t := 27) rfl
  obtain ⟨y1, y2, y3, y4⟩ := hS6.rules 2 (g := b10) (t := 27) rfl
  have HS6 := hide hS6
  clear hb6 hS6 HS5 C9 x4 y4
  go_wp2_with fail
  refine C10.out.mono ?_
  rintro e w7 ⟨rfl, hb7⟩
  have HB7 := hide (HS6.out.below hb7).below_
  clear hb7 HS6
  go_wp2_with fail
  go_ret
  exact ⟨rfl, HB7.out⟩
theorem idealPlays_walk (w : World) (AO AR Ad : Option Addr) (nO cO nR cR nd cd : Nat) (obs : List Ob) (roots : List Val) (ds : List DoV) (hcp : Caps obs) (hO : ObsRd w (fun _ => True) AO nO obs) (hR : Rd w (fun _ => True) 2 AR nR (vals roots)) (hD : Rd w (fun _ => True) 5 Ad nd (dosV ds)) :
    Calls Try.prog 10 #[.agg #[.slice AO nO cO, .slice AR nR cR], .slice Ad nd cd] w fun e w' => e = .returned (.bool true) ∧ Below w.heap.size w w' := by
  by_cases hz : playErr nO nR nd obs roots = 0
  · exact idealPlays_ok w AO AR Ad nO cO nR cR nd cd obs roots ds (fun o ho => (hcp o ho).2) hO hR hD hz
  · exact idealPlays_no w AO AR Ad nO cO nR cR nd cd obs roots hO hR hz
end Go.Proofs.Ytjphckfbbiehdaa

namespace Go.Proofs.Ytjphckfbbiehdaa
open Go.ChangeShapes Go.WideShapes Go.Deep Go.RowKit

theorem dosV_at5 (l : List DoV) (q r : Nat) (hr : r < 5) : (dosV l)[q * 5 + r]? = (l[q]?).bind fun d => [Value.int .i64 d.k, .int .i64 d.to, .int .i64 d.fr, .int .i64 d.at_, .int .i64 d.n][r]? := by
  unfold dosV
  induction l generalizing q with
  | nil => rfl
  | cons a l ih =>
    rw [List.flatMap_cons]
    cases q with
    | zero => rw [List.getElem?_append_left (by simp; omega)]; simp
    | succ q => rw [List.getElem?_append_right (by simp; omega), show (q + 1) * 5 + r - [Value.int .i64 a.k, .int .i64 a.to, .int .i64 a.fr, .int .i64 a.at_, .int .i64 a.n].length = q * 5 + r by simp; omega, ih]; rfl

theorem open_dos {H : Type} {enc : TypeId × Value → H} {P : Program} {w : World} {base : Nat} {spare : Nat → Bool} {held : Bool} {t e : TypeId} {v : Value} {d : DataW H} {p : List MemPlace} {fs : Array Field}
    (ht : P.underlying t = some (.slice e)) (he : P.underlying e = some (.struct fs)) (hone : oneCellFields P fs = true) (hC : P.cellsOf e = 5) (hf : fs.size = 5)
    (hi : ∀ (j : Nat) (f : Field), fs[j]? = some f → P.underlying f.type = some (.int .i64)) {r : Reach} {bb : Nat} (hv : Value.okWide P w r bb t v) (h : DataW.Trod enc P w base spare held t v d p) :
    ∃ (A : Option Addr) (n c : Nat) (l : List DoV), v = .slice A n c ∧ n ≤ 9223372036854775807 ∧ l.length = n ∧ Rd w (fun _ => True) 5 A n (dosV l) := by
  obtain ⟨A, n, c, rfl⟩ := okWide_slice ht hv
  obtain ⟨fuel, h⟩ := h
  rcases open_slice ht h with ⟨h0, _⟩ | ⟨a, len, cap, m, n0, D, Pl, hcs, _, hl, hm, hmm, _, hx⟩
  · simp [Value.cells] at h0
    obtain ⟨rfl, rfl, rfl⟩ := h0
    exact ⟨none, 0, 0, [], rfl, by omega, rfl, Rd.nil⟩
  · simp [Value.cells] at hcs
    obtain ⟨rfl, rfl, rfl⟩ := hcs
    have hle : n ≤ m := by rw [hmm]; split <;> omega
    have hmx : c ≤ 9223372036854775807 := by simpa [maxLen] using hm
    have key : ∀ i, i < n → ∃ x : DoV, w.cell? (a.add (i * 5)) = some (.int .i64 x.k) ∧ w.cell? (a.add (i * 5 + 1)) = some (.int .i64 x.to) ∧ w.cell? (a.add (i * 5 + 2)) = some (.int .i64 x.fr) ∧ w.cell? (a.add (i * 5 + 3)) = some (.int .i64 x.at_) ∧ w.cell? (a.add (i * 5 + 4)) = some (.int .i64 x.n) := by
      intro i hi'
      obtain ⟨cs', h1, h2⟩ := hx i (by omega)
      rw [hC] at h1
      obtain ⟨_, hcl, hat⟩ := World.cells?_some h1
      obtain ⟨ys, n', _, _, _, hyl, hj⟩ := DataW.trod_struct he h2
      have one : ∀ j, j < 5 → ∃ k : Int, w.cell? (a.add (i * 5 + j)) = some (.int .i64 k) := by
        intro j hj3
        have hfj : fs[j]? = some (fs[j]'(by omega)) := Array.getElem?_eq_getElem (by omega)
        obtain ⟨ho, hk⟩ := hone_of hone j _ hfj
        have h3 := hj j _ hfj
        rw [ho, hk, List.getElem?_eq_getElem (by omega)] at h3
        obtain ⟨k, e0, _, _⟩ := DataW.trod_int (hi j _ hfj) h3
        refine ⟨k, ?_⟩
        rw [← add_of_add, hat j (by omega)]
        have e1 := congrArg (fun l => l[0]?) e0
        simpa [List.getElem?_take, List.getElem?_drop] using e1
      obtain ⟨x0, hx0⟩ := one 0 (by omega)
      obtain ⟨x1, hx1⟩ := one 1 (by omega)
      obtain ⟨x2, hx2⟩ := one 2 (by omega)
      obtain ⟨x3, hx3⟩ := one 3 (by omega)
      obtain ⟨x4, hx4⟩ := one 4 (by omega)
      exact ⟨⟨x0, x1, x2, x3, x4⟩, hx0, hx1, hx2, hx3, hx4⟩
    haveI : Inhabited DoV := ⟨⟨0, 0, 0, 0, 0⟩⟩
    obtain ⟨f, hf'⟩ := choose_lt key
    refine ⟨some a, n, c, (List.range n).map f, rfl, by omega, by simp, ?_, ?_⟩
    · rw [dosV_length]; simp
    · intro hn
      refine ⟨a, rfl, trivial, ?_, ?_⟩
      · have := block_lt_ (hf' 0 hn).1
        simpa [block_of_add] using this
      · intro j u hu
        obtain ⟨q, r, hr, rfl⟩ : ∃ q r, r < 5 ∧ j = q * 5 + r := ⟨j / 5, j % 5, Nat.mod_lt _ (by omega), by omega⟩
        rw [dosV_at5 _ _ _ hr] at hu
        simp only [List.getElem?_map] at hu
        rcases Nat.lt_or_ge q n with hq | hq
        case inr => rw [List.getElem?_eq_none (by simp; omega)] at hu; cases hu
        rw [List.getElem?_range hq] at hu
        simp only [Option.map_some, Option.bind_some] at hu
        obtain ⟨g0, g1, g2, g3, g4⟩ := hf' q hq
        rcases (show r = 0 ∨ r = 1 ∨ r = 2 ∨ r = 3 ∨ r = 4 by omega) with rfl | rfl | rfl | rfl | rfl
        · simp at hu; subst hu; simpa [add_of_add] using g0
        · simp at hu; subst hu; simpa [add_of_add] using g1
        · simp at hu; subst hu; simpa [add_of_add] using g2
        · simp at hu; subst hu; simpa [add_of_add] using g3
        · simp at hu; subst hu; simpa [add_of_add] using g4
end Go.Proofs.Ytjphckfbbiehdaa
