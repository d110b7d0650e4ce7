/- The walk of the law on a memory with young and old objects. A script that comes in: a slice of structs of five numbers. -/
import Derived.Test.YtjphckfbbiehdaaSGenPlays32
import Derived.Test.YtjphckfbbiehdaaSGenPlays35
import Derived.Test.YtjphckfbbiehdaaSGenPlays42
import Derived.Test.YtjphckfbbiehdaaSGenPlays21
set_option linter.unusedSimpArgs false
set_option linter.unusedVariables false
namespace Go.Proofs.Ytjphckfbbiehdaa
open Go.RowKit
set_option maxRecDepth 100000 in
set_option maxHeartbeats 16000000 in
theorem genPlays_ok (w : World) (AO AR Ad : Option Addr) (nO cO nR cR nd cd : Nat) (obs : List Ob) (roots : List Val) (ds : List DoV) (b : Int) (hcp : ∀ o ∈ obs, o.A = none → o.c = 0) (hO : ObsRd w (fun _ => True) AO nO obs) (hR : Rd w (fun _ => True) 2 AR nR (vals roots)) (hD : Rd w (fun _ => True) 5 Ad nd (dosV ds)) (hz : genErr nO nR nd obs roots b = 0) :
    Calls Try.prog 12 #[.agg #[.slice AO nO cO, .slice AR nR cR], .int .i64 b, .slice Ad nd cd] w fun e w' => e = .returned (.bool true) ∧ Below w.heap.size w w' := by
  obtain ⟨hx, hb, hnd⟩ : gcheck nO nR obs roots = 0 ∧ ¬ (b < 1 ∨ 64 < b) ∧ nd ≤ 100 := by
    unfold genErr at hz
    split at hz
    · rename_i h; exact absurd hz h
    · rename_i h
      split at hz
      · omega
      · rename_i hb
        split at hz
        · omega
        · exact ⟨by omega, hb, by omega⟩
  obtain ⟨R0, rfl⟩ : ∃ R0 : Nat, b = (R0 : Int) := ⟨b.toNat, by omega⟩
  have hG := gok_of hO hx
  obtain ⟨gs, hgs⟩ : ∃ gs, obs.map Ob.fields = gs := ⟨_, rfl⟩
  have hM : MOk ⟨padR roots nR, gs⟩ := by
    have h1 := hG.vg
    have h2 := hG.vr
    have h3 := hG.fs
    rw [hgs] at h1 h2 h3
    exact ⟨padR_len roots nR (by have := roots_len hR; omega) hG.nR_, padR_ok h2 nR, h1, h3⟩
  have hgl : gs.length = nO := by rw [← hgs, hG.len]
  have hdl : ds.length = nd := by have h := hD.1; rw [dosV_length] at h; omega
  obtain ⟨g, hg⟩ : ∃ g, w.heap.size = g := ⟨_, rfl⟩
  have hS0 := (Sep.nil No w).blkAt 27 #[.slice AO nO cO, .slice AR nR cR] hg
  obtain ⟨a1, a2, a3, a4⟩ := hS0.rules 0 (g := g) (t := 27) rfl
  have a5 := (a1 0).trans (show _ = some (.slice AO nO cO) from rfl)
  have a6 := (a1 1).trans (show _ = some (.slice AR nR cR) from rfl)
  have C1 := hide (genPlay_ok _ AO AR Ad nO cO nR cR nd cd R0 obs roots gs ds hgs (hO.below hS0.below_) (hR.below hS0.below_) hcp hz hM (hD.below hS0.below_))
  have C4 := hide (fun w' (hb : Below w.heap.size w w') => refCheck_any w' AO AR nO cO nR cR obs roots (hO.below hb) (hR.below hb))
  simp only [hx] at C4
  have C5 := hide (fun w' (hb : Below w.heap.size w w') => refGrown_any w' AO AR Ad nO cO nR cR nd cd R0 obs roots gs ds hgs (hO.below hb) (hR.below hb) hG.nO_ hG.nR_ hG.fl hM (hD.below hb) hnd (by omega))
  have o4 : (gnRun R0 ds (gn0 ⟨padR roots nR, gs⟩)).1.length = nd := by rw [gnRun_len]; exact hdl
  obtain ⟨o5, o6⟩ := gn_small hM R0 ds (by show gs.length ≤ 24; have := hG.nO_; omega) (by omega)
  obtain ⟨R, hRn⟩ : ∃ r, gnRun R0 ds (gn0 ⟨padR roots nR, gs⟩) = r := ⟨_, rfl⟩
  simp only [hRn] at C1 C5 o4 o5 o6
  have hon : R.1.length ≤ 1000 := by omega
  have hrl : (gnThere R.2).length ≤ 1000 := o5
  have o3' := o4
  obtain ⟨os, hos⟩ : ∃ l, R.1 = l := ⟨_, rfl⟩
  obtain ⟨ts, hts⟩ : ∃ l, gnThere R.2 = l := ⟨_, rfl⟩
  obtain ⟨gl, hgl2⟩ : ∃ l, gnMks R.2 = l := ⟨_, rfl⟩
  rw [hos] at hon o3'
  rw [hts] at hrl
  simp only [hos, hts, hgl2] at C1 C5
  have HTL := hide hrl
  have HOL := hide o3'
  have C6 := hide (fun (X : World) (A1 A2 : Option Addr) (c1 c2 : Nat) (h1 : Rd X (fun _ => True) 3 A1 nd (outsV os)) (h2 : Rd X (fun _ => True) 3 A2 nd (outsV os)) => outs_any X A1 A2 nd c1 c2 os (by omega) h1 h2)
  have C7 := hide (fun (X : World) (A1 A2 : Option Addr) (n c1 c2 : Nat) (hn : n ≤ 1000) (h1 : Rd X (fun _ => True) 2 A1 n (countsV ts)) (h2 : Rd X (fun _ => True) 2 A2 n (countsV ts)) => counts_any X A1 A2 n c1 c2 ts hn h1 h2)
  have C8 := hide (fun (X : World) (A1 A2 : Option Addr) (n c1 c2 : Nat) (hn : n ≤ 1000) (h1 : Rd X (fun _ => True) 2 A1 n (countsV gl)) (h2 : Rd X (fun _ => True) 2 A2 n (countsV gl)) => counts_any X A1 A2 n c1 c2 gl hn h1 h2)
  have HGLN := hide (show gl.length ≤ 1000 from by
    rw [hgl2] at o6
    exact o6)
  have HS0 := hide hS0
  have t1 : decide ((R0 : Int) < 1) = false := by simp; omega
  have t2 : decide (64 < (R0 : Int)) = false := by simp; omega
  have t3 : decide ((100 : Int) < (nd : Int)) = false := by simp; omega
  have t4 : decide (100 < nd) = false := by simp; omega
  clear hS0 a4 a1 hO hR hz hx hG hM hD hgs o4 o5 o6 hRn hos hts hgl2 hrl o3' hon hcp hb hgl hdl
  go_enter Try.func12, Try.ntmps12
  go_wp2_with fail
  refine C1.out.mono ?_
  rintro e w1 ⟨A1, c1, A2, n2, c2, A3, n3, c3, rfl, hb1, hr1, hr2, hr3⟩
  have hn2 : n2 = ts.length := by have h := hr2.1; rw [countsV_length] at h; omega
  have hn3 : n3 = gl.length := by have h := hr3.1; rw [countsV_length] at h; omega
  have HTN := hide hn2.symm
  have HGN := hide hn3.symm
  rw [← hn2] at HTL
  rw [← hn3] at HGLN
  clear hn2 hn3
  obtain ⟨g1, hg1⟩ : ∃ g, w1.heap.size = g := ⟨_, rfl⟩
  have hS1 := (HS0.out.below hb1).blkAt 90 #[.slice A1 nd c1, .slice A2 n2 c2, .slice A3 n3 c3] hg1
  have hW : Below w1.heap.size w1 (w1.alloc (.cells #[.slice A1 nd c1, .slice A2 n2 c2, .slice A3 n3 c3] 90)) := (Below.refl _ w1).alloc (Nat.le_refl _) _
  have HR1 := hide ((hr1.more (D' := fun k => k < g1) (fun k hk _ => by omega)).below hW)
  have HR2 := hide ((hr2.more (D' := fun k => k < g1) (fun k hk _ => by omega)).below hW)
  have HR3 := hide ((hr3.more (D' := fun k => k < g1) (fun k hk _ => by omega)).below hW)
  obtain ⟨b1, b2, b3, b4⟩ := hS1.rules 0 (g := g) (t := 27) rfl
  have b5 := (b1 0).trans (show _ = some (.slice AO nO cO) from rfl)
  have b6 := (b1 1).trans (show _ = some (.slice AR nR cR) from rfl)
  have C4 := hide (C4.out _ hS1.below_)
  have HS1 := hide hS1
  clear hb1 hS1 HS0 C1 a2 a3 a5 a6 b4 b1 hr1 hr2 hr3 hW
  go_wp2_with fail
  refine C4.out.mono ?_
  rintro e w4 ⟨rfl, hb4⟩
  obtain ⟨g4, hg4⟩ : ∃ g, w4.heap.size = g := ⟨_, rfl⟩
  have hg14 : g1 < g4 := by
    have h := hb4.size
    simp at h
    omega
  have hS4 := (HS1.out.below hb4).blkAt 90 #[.slice none 0 0, .slice none 0 0, .slice none 0 0] hg4
  have hW4 : Below w4.heap.size w4 (w4.alloc (.cells #[.slice none 0 0, .slice none 0 0, .slice none 0 0] 90)) := (Below.refl _ w4).alloc (Nat.le_refl _) _
  have HT1 := hide ((HR1.out.below hb4).below hW4)
  have HT2 := hide ((HR2.out.below hb4).below hW4)
  have HT3 := hide ((HR3.out.below hb4).below hW4)
  obtain ⟨b1, b2, b3, b4⟩ := hS4.rules 0 (g := g) (t := 27) rfl
  have b5 := (b1 0).trans (show _ = some (.slice AO nO cO) from rfl)
  have b6 := (b1 1).trans (show _ = some (.slice AR nR cR) from rfl)
  have C5 := hide (C5.out _ hS4.below_)
  have HS4 := hide hS4
  have HG14 := hide hg14
  have HG4 := hide hg4
  clear hb4 hS4 HS1 C4 b4 b1 hW4 HR1 HR2 HR3
  go_wp2_with fail
  refine C5.out.mono ?_
  rintro e w5 ⟨B1, d1, B2, m2, d2, B3, m3, d3, rfl, hb5, hq1, hq2, hq3⟩
  have hm2 : m2 = n2 := by have h := hq2.1; rw [countsV_length, HTN.out] at h; omega
  have hm3 : m3 = n3 := by have h := hq3.1; rw [countsV_length, HGN.out] at h; omega
  subst hm2 hm3
  have hS5 := HS4.out.below hb5
  have hsz5 : g4 < w5.heap.size := hS5.hi 2 rfl g4 rfl
  have hlo : ∀ k, (w4.alloc (.cells #[.slice none 0 0, .slice none 0 0, .slice none 0 0] 90)).heap.size ≤ k → k ≠ g4 := fun k hk => by simp at hk; omega
  have hch : Chg (fun k => k = g4) w5 (((w5.setCell ⟨g4, 0, none⟩ (.slice B1 nd d1)).setCell ⟨g4, 1, none⟩ (.slice B2 m2 d2)).setCell ⟨g4, 2, none⟩ (.slice B3 m3 d3)) := (((Chg.refl (fun k => k = g4) w5).setCell (p := ⟨g4, 0, none⟩) (.inl rfl) _).setCell (p := ⟨g4, 1, none⟩) (.inl rfl) _).setCell (p := ⟨g4, 2, none⟩) (.inl rfl) _
  have hS6 := ((hS5.set_ 2 (g := g4) (t := 90) rfl 0 (.slice B1 nd d1)).set_ 2 (g := g4) (t := 90) rfl 1 (.slice B2 m2 d2)).set_ 2 (g := g4) (t := 90) rfl 2 (.slice B3 m3 d3)
  have HU1 := hide (((HT1.out.below hb5).chg hch (fun k hk hd => by have := HG14.out; omega)).more (D' := fun _ => True) (fun _ _ _ => trivial))
  have HU2 := hide (((HT2.out.below hb5).chg hch (fun k hk hd => by have := HG14.out; omega)).more (D' := fun _ => True) (fun _ _ _ => trivial))
  have HU3 := hide (((HT3.out.below hb5).chg hch (fun k hk hd => by have := HG14.out; omega)).more (D' := fun _ => True) (fun _ _ _ => trivial))
  have HQ1 := hide ((hq1.chg hch (fun k hk hd => hlo k hd hk)).more (D' := fun _ => True) (fun _ _ _ => trivial))
  have HQ2 := hide ((hq2.chg hch (fun k hk hd => hlo k hd hk)).more (D' := fun _ => True) (fun _ _ _ => trivial))
  have HQ3 := hide ((hq3.chg hch (fun k hk hd => hlo k hd hk)).more (D' := fun _ => True) (fun _ _ _ => trivial))
  obtain ⟨z1, z2, z3, _⟩ := hS5.rules 2 (g := g4) (t := 90) rfl
  have z5 := (z1 0).trans (show _ = some (.slice none 0 0) from rfl)
  have z6 := (z1 1).trans (show _ = some (.slice none 0 0) from rfl)
  have z7 := (z1 2).trans (show _ = some (.slice none 0 0) from rfl)
  obtain ⟨x1, x2, x3, _⟩ := hS5.rules 1 (g := g1) (t := 90) rfl
  have x5 := (x1 0).trans (show _ = some (.slice A1 nd c1) from rfl)
  have x6 := (x1 1).trans (show _ = some (.slice A2 m2 c2) from rfl)
  have x7 := (x1 2).trans (show _ = some (.slice A3 m3 c3) from rfl)
  have n1 : g1 ≠ g4 := by omega
  have n2 : g4 ≠ g1 := by omega
  have C6 := hide (C6.out (((w5.setCell ⟨g4, 0, none⟩ (.slice B1 nd d1)).setCell ⟨g4, 1, none⟩ (.slice B2 m2 d2)).setCell ⟨g4, 2, none⟩ (.slice B3 m3 d3)) A1 B1 c1 d1 HU1.out HQ1.out)
  have HS6 := hide hS6
  clear hb5 hS5 hS6 HS4 C5 x1 z1 hq1 hq2 hq3 hlo hch b2 b3 b5 b6 HU1 HQ1 hg4 hg14 HT1 HT2 HT3
  go_wp2_with fail
  refine C6.out.mono ?_
  rintro e w6 ⟨rfl, hb6⟩
  have hS7 := HS6.out.below hb6
  obtain ⟨x1, x2, x3, _⟩ := hS7.rules 1 (g := g1) (t := 90) rfl
  have x6 := (x1 1).trans (show _ = some (.slice A2 m2 c2) from rfl)
  have x7 := (x1 2).trans (show _ = some (.slice A3 m3 c3) from rfl)
  obtain ⟨y1, y2, y3, _⟩ := hS7.rules 2 (g := g4) (t := 90) rfl
  have y6 := (y1 1).trans (show _ = some (.slice B2 m2 d2) from rfl)
  have y7 := (y1 2).trans (show _ = some (.slice B3 m3 d3) from rfl)
  have C7 := hide (C7.out w6 A2 B2 m2 c2 d2 HTL.out (HU2.out.below hb6) (HQ2.out.below hb6))
  have HV3 := hide (HU3.out.below hb6)
  have HX3 := hide (HQ3.out.below hb6)
  have HS7 := hide hS7
  clear hb6 hS7 HS6 C6 x1 y1 HU2 HQ2 HU3 HQ3 z2 z3 z5 z6 z7
  go_wp2_with fail
  refine C7.out.mono ?_
  rintro e w7 ⟨rfl, hb7⟩
  have hS8 := HS7.out.below hb7
  obtain ⟨x1, x2, x3, _⟩ := hS8.rules 1 (g := g1) (t := 90) rfl
  have x7 := (x1 2).trans (show _ = some (.slice A3 m3 c3) from rfl)
  obtain ⟨y1, y2, y3, _⟩ := hS8.rules 2 (g := g4) (t := 90) rfl
  have y7 := (y1 2).trans (show _ = some (.slice B3 m3 d3) from rfl)
  have C8 := hide (C8.out w7 A3 B3 m3 c3 d3 HGLN.out (HV3.out.below hb7) (HX3.out.below hb7))
  have HS8 := hide hS8
  clear hb7 hS8 HS7 C7 x1 y1 HV3 HX3
  go_wp2_with fail
  refine C8.out.mono ?_
  rintro e w8 ⟨rfl, hb8⟩
  have HB8 := hide (HS8.out.below hb8).below_
  clear hb8 HS8
  go_wp2_with fail
  go_ret
  exact ⟨rfl, HB8.out⟩
theorem genPlays_walk (w : World) (AO AR Ad : Option Addr) (nO cO nR cR nd cd : Nat) (obs : List Ob) (roots : List Val) (ds : List DoV) (b : Int) (hcp : Caps obs) (hO : ObsRd w (fun _ => True) AO nO obs) (hR : Rd w (fun _ => True) 2 AR nR (vals roots)) (hD : Rd w (fun _ => True) 5 Ad nd (dosV ds)) :
    Calls Try.prog 12 #[.agg #[.slice AO nO cO, .slice AR nR cR], .int .i64 b, .slice Ad nd cd] w fun e w' => e = .returned (.bool true) ∧ Below w.heap.size w w' := by
  by_cases hz : genErr nO nR nd obs roots b = 0
  · exact genPlays_ok w AO AR Ad nO cO nR cR nd cd obs roots ds b (fun o ho => (hcp o ho).2) hO hR hD hz
  · exact genPlays_no w AO AR Ad nO cO nR cR nd cd obs roots b hO hR hz
end Go.Proofs.Ytjphckfbbiehdaa

namespace Go.Proofs.Ytjphckfbbiehdaa
open Go.ChangeShapes Go.WideShapes Go.Deep Go.RowKit
theorem dosV_at5 (l : List DoV) (q r : Nat) (hr : r < 5) : (dosV l)[q * 5 + r]? = (l[q]?).bind fun d => [Value.int .i64 d.k, .int .i64 d.to, .int .i64 d.fr, .int .i64 d.at_, .int .i64 d.n][r]? := by
  unfold dosV
  induction l generalizing q with
  | nil => rfl
  | cons a l ih =>
    rw [List.flatMap_cons]
    cases q with
    | zero => rw [List.getElem?_append_left (by simp; omega)]; simp
    | succ q => rw [List.getElem?_append_right (by simp; omega), show (q + 1) * 5 + r - [Value.int .i64 a.k, .int .i64 a.to, .int .i64 a.fr, .int .i64 a.at_, .int .i64 a.n].length = q * 5 + r by simp; omega, ih]; rfl
theorem open_dos {H : Type} {enc : TypeId × Value → H} {P : Program} {w : World} {base : Nat} {spare : Nat → Bool} {held : Bool} {t e : TypeId} {v : Value} {d : DataW H} {p : List MemPlace} {fs : Array Field}
    (ht : P.underlying t = some (.slice e)) (he : P.underlying e = some (.struct fs)) (hone : oneCellFields P fs = true) (hC : P.cellsOf e = 5) (hf : fs.size = 5)
    (hi : ∀ (j : Nat) (f : Field), fs[j]? = some f → P.underlying f.type = some (.int .i64)) {r : Reach} {bb : Nat} (hv : Value.okWide P w r bb t v) (h : DataW.Trod enc P w base spare held t v d p) :
    ∃ (A : Option Addr) (n c : Nat) (l : List DoV), v = .slice A n c ∧ n ≤ 9223372036854775807 ∧ l.length = n ∧ Rd w (fun _ => True) 5 A n (dosV l) := by
  obtain ⟨A, n, c, rfl⟩ := okWide_slice ht hv
  obtain ⟨fuel, h⟩ := h
  rcases open_slice ht h with ⟨h0, _⟩ | ⟨a, len, cap, m, n0, D, Pl, hcs, _, hl, hm, hmm, _, hx⟩
  · simp [Value.cells] at h0
    obtain ⟨rfl, rfl, rfl⟩ := h0
    exact ⟨none, 0, 0, [], rfl, by omega, rfl, Rd.nil⟩
  · simp [Value.cells] at hcs
    obtain ⟨rfl, rfl, rfl⟩ := hcs
    have hle : n ≤ m := by rw [hmm]; split <;> omega
    have hmx : c ≤ 9223372036854775807 := by simpa [maxLen] using hm
    have key : ∀ i, i < n → ∃ x : DoV, w.cell? (a.add (i * 5)) = some (.int .i64 x.k) ∧ w.cell? (a.add (i * 5 + 1)) = some (.int .i64 x.to) ∧ w.cell? (a.add (i * 5 + 2)) = some (.int .i64 x.fr) ∧ w.cell? (a.add (i * 5 + 3)) = some (.int .i64 x.at_) ∧ w.cell? (a.add (i * 5 + 4)) = some (.int .i64 x.n) := by
      intro i hi'
      obtain ⟨cs', h1, h2⟩ := hx i (by omega)
      rw [hC] at h1
      obtain ⟨_, hcl, hat⟩ := World.cells?_some h1
      obtain ⟨ys, n', _, _, _, hyl, hj⟩ := DataW.trod_struct he h2
      have one : ∀ j, j < 5 → ∃ k : Int, w.cell? (a.add (i * 5 + j)) = some (.int .i64 k) := by
        intro j hj3
        have hfj : fs[j]? = some (fs[j]'(by omega)) := Array.getElem?_eq_getElem (by omega)
        obtain ⟨ho, hk⟩ := hone_of hone j _ hfj
        have h3 := hj j _ hfj
        rw [ho, hk, List.getElem?_eq_getElem (by omega)] at h3
        obtain ⟨k, e0, _, _⟩ := DataW.trod_int (hi j _ hfj) h3
        refine ⟨k, ?_⟩
        rw [← add_of_add, hat j (by omega)]
        have e1 := congrArg (fun l => l[0]?) e0
        simpa [List.getElem?_take, List.getElem?_drop] using e1
      obtain ⟨x0, hx0⟩ := one 0 (by omega)
      obtain ⟨x1, hx1⟩ := one 1 (by omega)
      obtain ⟨x2, hx2⟩ := one 2 (by omega)
      obtain ⟨x3, hx3⟩ := one 3 (by omega)
      obtain ⟨x4, hx4⟩ := one 4 (by omega)
      exact ⟨⟨x0, x1, x2, x3, x4⟩, hx0, hx1, hx2, hx3, hx4⟩
    haveI : Inhabited DoV := ⟨⟨0, 0, 0, 0, 0⟩⟩
    obtain ⟨f, hf'⟩ := choose_lt key
    refine ⟨some a, n, c, (List.range n).map f, rfl, by omega, by simp, ?_, ?_⟩
    · rw [dosV_length]; simp
    · intro hn
      refine ⟨a, rfl, trivial, ?_, ?_⟩
      · have := block_lt_ (hf' 0 hn).1
        simpa [block_of_add] using this
      · intro j u hu
        obtain ⟨q, r, hr, rfl⟩ : ∃ q r, r < 5 ∧ j = q * 5 + r := ⟨j / 5, j % 5, Nat.mod_lt _ (by omega), by omega⟩
        rw [dosV_at5 _ _ _ hr] at hu
        simp only [List.getElem?_map] at hu
        rcases Nat.lt_or_ge q n with hq | hq
        case inr => rw [List.getElem?_eq_none (by simp; omega)] at hu; cases hu
        rw [List.getElem?_range hq] at hu
        simp only [Option.map_some, Option.bind_some] at hu
        obtain ⟨g0, g1, g2, g3, g4⟩ := hf' q hq
        rcases (show r = 0 ∨ r = 1 ∨ r = 2 ∨ r = 3 ∨ r = 4 by omega) with rfl | rfl | rfl | rfl | rfl
        · simp at hu; subst hu; simpa [add_of_add] using g0
        · simp at hu; subst hu; simpa [add_of_add] using g1
        · simp at hu; subst hu; simpa [add_of_add] using g2
        · simp at hu; subst hu; simpa [add_of_add] using g3
        · simp at hu; subst hu; simpa [add_of_add] using g4
end Go.Proofs.Ytjphckfbbiehdaa
