/- The walk of the law on a memory that counts. -/
import Derived.Test.YtjphckfbbiehdaaGCountPlays4
import Derived.Test.YtjphckfbbiehdaaGCountPlays5
import Derived.Test.YtjphckfbbiehdaaGCountPlays7
import Derived.Test.YtjphckfbbiehdaaGIdealPlays20
set_option linter.unusedSimpArgs false
set_option linter.unusedVariables false
namespace Go.Proofs.Ytjphckfbbiehdaa
open Go.RowKit

set_option maxRecDepth 100000 in
set_option maxHeartbeats 16000000 in
theorem countPlays_ok (w : World) (AO AR Ad : Option Addr) (nO cO nR cR nd cd : Nat) (obs : List Ob) (roots : List Val) (ds : List DoV) (b : Int) (hcp : ∀ o ∈ obs, o.A = none → o.c = 0) (hO : ObsRd w (fun _ => True) AO nO obs) (hR : Rd w (fun _ => True) 2 AR nR (vals roots)) (hD : Rd w (fun _ => True) 5 Ad nd (dosV ds)) (hz : cntErr nO nR nd obs roots b = 0) :
    Calls Try.prog 9 #[.agg #[.slice AO nO cO, .slice AR nR cR], .int .i64 b, .slice Ad nd cd] w fun e w' => e = .returned (.bool true) ∧ Below w.heap.size w w' := by
  obtain ⟨hx, hb, hnd⟩ : gcheck nO nR obs roots = 0 ∧ ¬ (b < 1 ∨ 64 < b) ∧ nd ≤ 100 := by
    unfold cntErr at hz
    split at hz
    · rename_i h; exact absurd hz h
    · rename_i h
      split at hz
      · omega
      · rename_i hb
        split at hz
        · omega
        · exact ⟨by omega, hb, by omega⟩
  have hG := gok_of hO hx
  obtain ⟨gs, hgs⟩ : ∃ gs, obs.map Ob.fields = gs := ⟨_, rfl⟩
  have hM : MOk ⟨padR roots nR, gs⟩ := by
    have h1 := hG.vg
    have h2 := hG.vr
    have h3 := hG.fs
    rw [hgs] at h1 h2 h3
    exact ⟨padR_len roots nR (by have := roots_len hR; omega) hG.nR_, padR_ok h2 nR, h1, h3⟩
  have hgl : gs.length = nO := by rw [← hgs, hG.len]
  have hdl : ds.length = nd := by have h := hD.1; rw [dosV_length] at h; omega
  obtain ⟨g, hg⟩ : ∃ g, w.heap.size = g := ⟨_, rfl⟩
  have hS0 := (Sep.nil No w).blkAt 27 #[.slice AO nO cO, .slice AR nR cR] hg
  obtain ⟨a1, a2, a3, a4⟩ := hS0.rules 0 (g := g) (t := 27) rfl
  have a5 := (a1 0).trans (show _ = some (.slice AO nO cO) from rfl)
  have a6 := (a1 1).trans (show _ = some (.slice AR nR cR) from rfl)
  have C1 := hide (countPlay_ok _ AO AR Ad nO cO nR cR nd cd obs roots gs ds b hgs (hO.below hS0.below_) (hR.below hS0.below_) hcp hz hM (hD.below hS0.below_))
  have C4 := hide (fun w' (hb : Below w.heap.size w w') => refCheck_any w' AO AR nO cO nR cR obs roots (hO.below hb) (hR.below hb))
  simp only [hx] at C4
  have C5 := hide (fun w' (hb : Below w.heap.size w w') => refCounted_any w' AO AR Ad nO cO nR cR nd cd obs roots gs ds b hgs (hO.below hb) (hR.below hb) hG.nO_ hG.nR_ hG.fl hM (hD.below hb) hnd)
  obtain ⟨o1, o2, o3, o4, o5, o6⟩ := cn_law b ds hM
  rw [show (⟨padR roots nR, gs⟩ : MSt).objs.length = nO from hgl] at o1 o2 o3 o4 o5 o6
  simp only [o1, o2, o3] at C1
  obtain ⟨R, hRn⟩ : ∃ r, crRun b ds (crBeg ⟨padR roots nR, gs⟩ nO) = r := ⟨_, rfl⟩
  simp only [hRn] at C1 C5 o4 o5 o6
  have hon : R.1.length ≤ 1000 := by omega
  have hrl : (crThere R.2).length ≤ 1000 := by have h4 := hG.nO_; omega
  have o3' := o4
  obtain ⟨os, hos⟩ : ∃ l, R.1 = l := ⟨_, rfl⟩
  obtain ⟨ts, hts⟩ : ∃ l, crThere R.2 = l := ⟨_, rfl⟩
  obtain ⟨gl, hgl2⟩ : ∃ l, R.2.gl = l := ⟨_, rfl⟩
  rw [hos] at hon o3'
  rw [hts] at hrl
  simp only [hos, hts, hgl2] at C1 C5
  have HTL := hide hrl
  have HOL := hide o3'
  have C6 := hide (fun (X : World) (A1 A2 : Option Addr) (c1 c2 : Nat) (h1 : Rd X (fun _ => True) 3 A1 nd (outsV os)) (h2 : Rd X (fun _ => True) 3 A2 nd (outsV os)) => outs_any X A1 A2 nd c1 c2 os (by omega) h1 h2)
  have C7 := hide (fun (X : World) (A1 A2 : Option Addr) (n c1 c2 : Nat) (hn : n ≤ 1000) (h1 : Rd X (fun _ => True) 2 A1 n (countsV ts)) (h2 : Rd X (fun _ => True) 2 A2 n (countsV ts)) => counts_any X A1 A2 n c1 c2 ts hn h1 h2)
  have C8 := hide (fun (X : World) (A1 A2 : Option Addr) (n c1 c2 : Nat) (hn : n ≤ 9223372036854775807) (h1 : Rd X (fun _ => True) 1 A1 n (ints gl)) (h2 : Rd X (fun _ => True) 1 A2 n (ints gl)) => ints_same X (fun _ => True) (fun _ => True) A1 A2 n c1 c2 gl hn h1 h2)
  have HGLN := hide (show gl.length ≤ 100000 from by
    rw [hgl2] at o6
    have := hG.nO_
    omega)
  have HS0 := hide hS0
  have t1 : decide (b < 1) = false := by simp; omega
  have t2 : decide (64 < b) = false := by simp; omega
  have t3 : decide ((100 : Int) < (nd : Int)) = false := by simp; omega
  have t4 : decide (100 < nd) = false := by simp; omega
  clear hS0 a4 a1 hO hR hz hx hG hM hD hgs o1 o2 o4 o5 o6 hRn hos hts hgl2 hrl o3 o3' hon hcp hb hgl hdl
  go_enter Try.func9, Try.ntmps9
  go_wp2_with fail
  refine C1.out.mono ?_
  rintro e w1 ⟨A1, c1, A2, n2, c2, A3, n3, c3, rfl, hb1, hr1, hr2, hr3⟩
  have hn2 : n2 = ts.length := by have h := hr2.1; rw [countsV_length] at h; omega
  have hn3 : n3 = gl.length := by have h := hr3.1; simp at h; omega
  have HTN := hide hn2.symm
  have HGN := hide hn3.symm
  rw [← hn2] at HTL
  rw [← hn3] at HGLN
  clear hn2 hn3
  obtain ⟨g1, hg1⟩ : ∃ g, w1.heap.size = g := ⟨_, rfl⟩
  have hS1 := (HS0.out.below hb1).blkAt 73 #[.slice A1 nd c1, .slice A2 n2 c2, .slice A3 n3 c3] hg1
  have hW : Below w1.heap.size w1 (w1.alloc (.cells #[.slice A1 nd c1, .slice A2 n2 c2, .slice A3 n3 c3] 73)) := (Below.refl _ w1).alloc (Nat.le_refl _) _
  have HR1 := hide ((hr1.more (D' := fun k => k < g1) (fun k hk _ => by omega)).below hW)
  have HR2 := hide ((hr2.more (D' := fun k => k < g1) (fun k hk _ => by omega)).below hW)
  have HR3 := hide ((hr3.more (D' := fun k => k < g1) (fun k hk _ => by omega)).below hW)
  obtain ⟨b1, b2, b3, b4⟩ := hS1.rules 0 (g := g) (t := 27) rfl
  have b5 := (b1 0).trans (show _ = some (.slice AO nO cO) from rfl)
  have b6 := (b1 1).trans (show _ = some (.slice AR nR cR) from rfl)
  have C4 := hide (C4.out _ hS1.below_)
  have HS1 := hide hS1
  clear hb1 hS1 HS0 C1 a2 a3 a5 a6 b4 b1 hr1 hr2 hr3 hW
  go_wp2_with fail
  refine C4.out.mono ?_
  rintro e w4 ⟨rfl, hb4⟩
  obtain ⟨g4, hg4⟩ : ∃ g, w4.heap.size = g := ⟨_, rfl⟩
  have hg14 : g1 < g4 := by
    have h := hb4.size
    simp at h
    omega
  have hS4 := (HS1.out.below hb4).blkAt 73 #[.slice none 0 0, .slice none 0 0, .slice none 0 0] hg4
  have hW4 : Below w4.heap.size w4 (w4.alloc (.cells #[.slice none 0 0, .slice none 0 0, .slice none 0 0] 73)) := (Below.refl _ w4).alloc (Nat.le_refl _) _
  have HT1 := hide ((HR1.out.below hb4).below hW4)
  have HT2 := hide ((HR2.out.below hb4).below hW4)
  have HT3 := hide ((HR3.out.below hb4).below hW4)
  obtain ⟨b1, b2, b3, b4⟩ := hS4.rules 0 (g := g) (t := 27) rfl
  have b5 := (b1 0).trans (show _ = some (.slice AO nO cO) from rfl)
  have b6 := (b1 1).trans (show _ = some (.slice AR nR cR) from rfl)
  have C5 := hide (C5.out _ hS4.below_)
  have HS4 := hide hS4
  have HG14 := hide hg14
  have HG4 := hide hg4
  clear hb4 hS4 HS1 C4 b4 b1 hW4 HR1 HR2 HR3
  go_wp2_with fail
  refine C5.out.mono ?_
  rintro e w5 ⟨B1, d1, B2, m2, d2, B3, m3, d3, rfl, hb5, hq1, hq2, hq3⟩
  have hm2 : m2 = n2 := by have h := hq2.1; rw [countsV_length, HTN.out] at h; omega
  have hm3 : m3 = n3 := by have h := hq3.1; simp at h; have h2 := HGN.out; omega
  subst hm2 hm3
  have hS5 := HS4.out.below hb5
  have hsz5 : g4 < w5.heap.size := hS5.hi 2 rfl g4 rfl
  have hlo : ∀ k, (w4.alloc (.cells #[.slice none 0 0, .slice none 0 0, .slice none 0 0] 73)).heap.size ≤ k → k ≠ g4 := fun k hk => by simp at hk; omega
  have hch : Chg (fun k => k = g4) w5 (((w5.setCell ⟨g4, 0, none⟩ (.slice B1 nd d1)).setCell ⟨g4, 1, none⟩ (.slice B2 m2 d2)).setCell ⟨g4, 2, none⟩ (.slice B3 m3 d3)) := (((Chg.refl (fun k => k = g4) w5).setCell (p := ⟨g4, 0, none⟩) (.inl rfl) _).setCell (p := ⟨g4, 1, none⟩) (.inl rfl) _).setCell (p := ⟨g4, 2, none⟩) (.inl rfl) _
  have hS6 := ((hS5.set_ 2 (g := g4) (t := 73) rfl 0 (.slice B1 nd d1)).set_ 2 (g := g4) (t := 73) rfl 1 (.slice B2 m2 d2)).set_ 2 (g := g4) (t := 73) rfl 2 (.slice B3 m3 d3)
  have HU1 := hide (((HT1.out.below hb5).chg hch (fun k hk hd => by have := HG14.out; omega)).more (D' := fun _ => True) (fun _ _ _ => trivial))
  have HU2 := hide (((HT2.out.below hb5).chg hch (fun k hk hd => by have := HG14.out; omega)).more (D' := fun _ => True) (fun _ _ _ => trivial))
  have HU3 := hide (((HT3.out.below hb5).chg hch (fun k hk hd => by have := HG14.out; omega)).more (D' := fun _ => True) (fun _ _ _ => trivial))
  have HQ1 := hide ((hq1.chg hch (fun k hk hd => hlo k hd hk)).more (D' := fun _ => True) (fun _ _ _ => trivial))
  have HQ2 := hide ((hq2.chg hch (fun k hk hd => hlo k hd hk)).more (D' := fun _ => True) (fun _ _ _ => trivial))
  have HQ3 := hide ((hq3.chg hch (fun k hk hd => hlo k hd hk)).more (D' := fun _ => True) (fun _ _ _ => trivial))
  obtain ⟨z1, z2, z3, _⟩ := hS5.rules 2 (g := g4) (t := 73) rfl
  have z5 := (z1 0).trans (show _ = some (.slice none 0 0) from rfl)
  have z6 := (z1 1).trans (show _ = some (.slice none 0 0) from rfl)
  have z7 := (z1 2).trans (show _ = some (.slice none 0 0) from rfl)
  obtain ⟨x1, x2, x3, _⟩ := hS5.rules 1 (g := g1) (t := 73) rfl
  have x5 := (x1 0).trans (show _ = some (.slice A1 nd c1) from rfl)
  have x6 := (x1 1).trans (show _ = some (.slice A2 m2 c2) from rfl)
  have x7 := (x1 2).trans (show _ = some (.slice A3 m3 c3) from rfl)
  have n1 : g1 ≠ g4 := by omega
  have n2 : g4 ≠ g1 := by omega
  have C6 := hide (C6.out (((w5.setCell ⟨g4, 0, none⟩ (.slice B1 nd d1)).setCell ⟨g4, 1, none⟩ (.slice B2 m2 d2)).setCell ⟨g4, 2, none⟩ (.slice B3 m3 d3)) A1 B1 c1 d1 HU1.out HQ1.out)
  have HS6 := hide hS6
  clear hb5 hS5 hS6 HS4 C5 x1 z1 hq1 hq2 hq3 hlo hch b2 b3 b5 b6 HU1 HQ1 hg4 hg14 HT1 HT2 HT3
  go_wp2_with fail
  refine C6.out.mono ?_
  rintro e w6 ⟨rfl, hb6⟩
  have hS7 := HS6.out.below hb6
  obtain ⟨x1, x2, x3, _⟩ := hS7.rules 1 (g := g1) (t := 73) rfl
  have x6 := (x1 1).trans (show _ = some (.slice A2 m2 c2) from rfl)
  have x7 := (x1 2).trans (show _ = some (.slice A3 m3 c3) from rfl)
  obtain ⟨y1, y2, y3, _⟩ := hS7.rules 2 (g := g4) (t := 73) rfl
  have y6 := (y1 1).trans (show _ = some (.slice B2 m2 d2) from rfl)
  have y7 := (y1 2).trans (show _ = some (.slice B3 m3 d3) from rfl)
  have C7 := hide (C7.out w6 A2 B2 m2 c2 d2 HTL.out (HU2.out.below hb6) (HQ2.out.below hb6))
  have HV3 := hide (HU3.out.below hb6)
  have HX3 := hide (HQ3.out.below hb6)
  have HS7 := hide hS7
  clear hb6 hS7 HS6 C6 x1 y1 HU2 HQ2 HU3 HQ3 z2 z3 z5 z6 z7
  go_wp2_with fail
  refine C7.out.mono ?_
  rintro e w7 ⟨rfl, hb7⟩
  have hS8 := HS7.out.below hb7
  obtain ⟨x1, x2, x3, _⟩ := hS8.rules 1 (g := g1) (t := 73) rfl
  have x7 := (x1 2).trans (show _ = some (.slice A3 m3 c3) from rfl)
  obtain ⟨y1, y2, y3, _⟩ := hS8.rules 2 (g := g4) (t := 73) rfl
  have y7 := (y1 2).trans (show _ = some (.slice B3 m3 d3) from rfl)
  have C8 := hide (C8.out w7 A3 B3 m3 c3 d3 (by have := HGLN.out; omega) (HV3.out.below hb7) (HX3.out.below hb7))
  have HS8 := hide hS8
  clear hb7 hS8 HS7 C7 x1 y1 HV3 HX3
  go_wp2_with fail
  refine C8.out.mono ?_
  rintro e w8 ⟨rfl, hb8⟩
  have HB8 := hide (HS8.out.below hb8).below_
  clear hb8 HS8
  go_wp2_with fail
  go_ret
  exact ⟨rfl, HB8.out⟩
theorem countPlays_walk (w : World) (AO AR Ad : Option Addr) (nO cO nR cR nd cd : Nat) (obs : List Ob) (roots : List Val) (ds : List DoV) (b : Int) (hcp : Caps obs) (hO : ObsRd w (fun _ => True) AO nO obs) (hR : Rd w (fun _ => True) 2 AR nR (vals roots)) (hD : Rd w (fun _ => True) 5 Ad nd (dosV ds)) :
    Calls Try.prog 9 #[.agg #[.slice AO nO cO, .slice AR nR cR], .int .i64 b, .slice Ad nd cd] w fun e w' => e = .returned (.bool true) ∧ Below w.heap.size w w' := by
  by_cases hz : cntErr nO nR nd obs roots b = 0
  · exact countPlays_ok w AO AR Ad nO cO nR cR nd cd obs roots ds b (fun o ho => (hcp o ho).2) hO hR hD hz
  · exact countPlays_no w AO AR Ad nO cO nR cR nd cd obs roots b hO hR hz
end Go.Proofs.Ytjphckfbbiehdaa
