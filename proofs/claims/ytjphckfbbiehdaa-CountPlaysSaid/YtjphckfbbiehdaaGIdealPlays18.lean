/- A script, plain: what a machine answers to it, and what it is behind it. The reference's Ideal: a script on its memory. A memory without end: a script on it. -/
import Derived.Test.YtjphckfbbiehdaaGIdealPlays17
import Derived.Test.YtjphckfbbiehdaaGIdealPlays16
import Derived.Test.YtjphckfbbiehdaaGIdealPlays7
set_option linter.unusedSimpArgs false
set_option linter.unusedVariables false
namespace Go.Proofs.Ytjphckfbbiehdaa
open Go.RowKit

def runStep (p : List OutV × MSt) (d : DoV) : List OutV × MSt := (p.1 ++ [(stepM d p.2).1], (stepM d p.2).2)
def runM (ds : List DoV) (σ : MSt) : List OutV × MSt := ds.foldl runStep ([], σ)
theorem runM_snoc (ds : List DoV) (d : DoV) (σ : MSt) : runM (ds ++ [d]) σ = ((runM ds σ).1 ++ [(stepM d (runM ds σ).2).1], (stepM d (runM ds σ).2).2) := by
  unfold runM; rw [List.foldl_append]; rfl
theorem runM_ok0 (ds : List DoV) : ∀ p : List OutV × MSt, MOk p.2 → MOk (ds.foldl runStep p).2 ∧ (ds.foldl runStep p).2.objs.length ≤ p.2.objs.length + ds.length ∧ (ds.foldl runStep p).1.length = p.1.length + ds.length := by
  induction ds with
  | nil => intro p h; exact ⟨h, by simp, by simp⟩
  | cons d ds ih =>
    intro p h
    obtain ⟨h1, h2, h3⟩ := h.step d
    obtain ⟨i1, i2, i3⟩ := ih (runStep p d) h1
    rw [List.foldl_cons]
    refine ⟨i1, ?_, ?_⟩
    · have : (runStep p d).2.objs.length ≤ p.2.objs.length + 1 := h3
      rw [List.length_cons]; omega
    · have : (runStep p d).1.length = p.1.length + 1 := by simp [runStep]
      rw [List.length_cons]; omega
theorem runM_ok (ds : List DoV) {σ : MSt} (h : MOk σ) : MOk (runM ds σ).2 ∧ (runM ds σ).2.objs.length ≤ σ.objs.length + ds.length ∧ (runM ds σ).1.length = ds.length := by
  have h1 := runM_ok0 ds ([], σ) h
  simpa [runM] using h1
def dosV (l : List DoV) : List Value := l.flatMap fun d => [.int .i64 d.k, .int .i64 d.to, .int .i64 d.fr, .int .i64 d.at_, .int .i64 d.n]
theorem dosV_length (l : List DoV) : (dosV l).length = l.length * 5 := by
  unfold dosV; induction l with
  | nil => rfl
  | cons a l ih => simp [List.flatMap_cons] at ih ⊢; omega
theorem dosV_at (l : List DoV) (k : Nat) (h : k < l.length) : (dosV l)[k * 5]? = some (.int .i64 l[k].k) ∧ (dosV l)[k * 5 + (0 + 1)]? = some (.int .i64 l[k].to) ∧ (dosV l)[k * 5 + (1 + 1)]? = some (.int .i64 l[k].fr) ∧ (dosV l)[k * 5 + (2 + 1)]? = some (.int .i64 l[k].at_) ∧ (dosV l)[k * 5 + (3 + 1)]? = some (.int .i64 l[k].n) := by
  unfold dosV
  induction l generalizing k with
  | nil => simp at h
  | cons a l ih =>
    cases k with
    | zero => exact ⟨rfl, rfl, rfl, rfl, rfl⟩
    | succ k =>
      have h2 := ih k (by simpa using h)
      rw [List.flatMap_cons, show (k + 1) * 5 = k * 5 + 1 + 1 + 1 + 1 + 1 from by omega]
      exact h2
theorem outsV_app (a b : List OutV) : outsV (a ++ b) = outsV a ++ outsV b := by simp [outsV]
theorem sOut : SliceT Try.prog 23 41 3 24 := SliceT.mk_ Try.underlying23 (z := .agg #[.int .i64 0, .bool false, .int .i64 0]) (by kernel_rfl) rfl (by omega)
end Go.Proofs.Ytjphckfbbiehdaa

namespace Go.Proofs.Ytjphckfbbiehdaa
open Go.RowKit

theorem padR_ok {n : Nat} {l : List Val} (h : ValsOk n l) (k : Nat) : ValsOk n (padR l k) := fun v hv h1 => by
  unfold padR at hv
  rcases List.mem_append.1 hv with h2 | h2
  · exact h v (List.mem_of_mem_take h2) h1
  · obtain ⟨_, rfl⟩ := List.mem_replicate.1 h2
    cases h1

set_option maxRecDepth 100000 in
set_option maxHeartbeats 16000000 in
theorem refIdeal_any (w : World) (AO AR Ad : Option Addr) (nO cO nR cR nd cd : Nat) (obs : List Ob) (roots : List Val) (gs : List (List Val)) (ds : List DoV) (hgs : obs.map Ob.fields = gs) (hO : ObsRd w (fun _ => True) AO nO obs) (hR : Rd w (fun _ => True) 2 AR nR (vals roots)) (hnO : nO ≤ 24) (hnR : nR ≤ 8) (h4 : ∀ o ∈ obs, o.n ≤ 4)
    (hM : MOk ⟨padR roots nR, gs⟩) (hD : Rd w (fun _ => True) 5 Ad nd (dosV ds)) (hnd : nd ≤ 100) :
    Calls Try.prog 35 #[.agg #[.slice AO nO cO, .slice AR nR cR], .slice Ad nd cd] w fun e w' => ∃ A n c v', e = .returned (.tuple #[.slice A n c, v']) ∧ Below w.heap.size w w' ∧ Rd w' (fun g => w.heap.size ≤ g) 3 A n (outsV (runM ds ⟨padR roots nR, gs⟩).1) ∧ GraphRd w' (fun g => w.heap.size ≤ g) v' (renumF (runM ds ⟨padR roots nR, gs⟩).2.objs (order (runM ds ⟨padR roots nR, gs⟩).2.objs (runM ds ⟨padR roots nR, gs⟩).2.regs)) ((runM ds ⟨padR roots nR, gs⟩).2.regs.map (turnL (order (runM ds ⟨padR roots nR, gs⟩).2.objs (runM ds ⟨padR roots nR, gs⟩).2.regs))) := by
  have HDL := hide (show ds.length = nd by have := hD.1; rw [dosV_length] at this; omega)
  have hgl : gs.length = nO := by rw [← hgs, List.length_map]; exact hO.len
  have HGL := hide hgl
  obtain ⟨g, hg⟩ : ∃ g, w.heap.size = g := ⟨_, rfl⟩
  have hS0 := ((Sep.nil No w).blkAt 27 #[.slice AO nO cO, .slice AR nR cR] hg).blkAt 27 #[.slice none 0 0, .slice none 0 0] (g := g + 1) (by simp [hg])
  have CN := hide (fun w' (hb : Below w.heap.size w w') => newMem_any w' AO AR nO cO nR cR obs roots gs hgs (hO.below hb) (hR.below hb) (by omega) hnR h4)
  obtain ⟨σ0, hσ⟩ : ∃ σ, (⟨padR roots nR, gs⟩ : MSt) = σ := ⟨_, rfl⟩
  rw [hσ] at hM
  simp only [hσ] at CN ⊢
  have hso : σ0.objs.length = nO := by rw [← hσ]; exact hgl
  have HSO := hide hso
  have HM := hide hM
  have HS0 := hide hS0
  clear hgs hO hR h4 hgl hS0 hσ hso hM
  go_enter Try.func35, Try.ntmps35
  go_wp2_with fail
  refine (CN.out _ HS0.out.below_).mono ?_
  rintro e w1 ⟨Bm, s0, rfl, hab, hgn, hP⟩
  have hS1 := (HS0.out.snocNew hP.below_ _ (hP.get 0 rfl) (fun g hg => (hP.lo 0 rfl g hg).resolve_left (fun h => h))).nilRow 41 3
  have HS1 := hide hS1
  have HAB := hide hab
  have hol : s0.obs.length = nO := by have h := congrArg (fun σ => σ.objs.length) hab; simp [absR] at h; have := HSO.out; omega
  have HGN := hide (show s0.gone.length = s0.obs.length by rw [hgn, List.length_replicate]; omega)
  clear hP hS1 hab CN HS0 hgn hol
  go_wp2_with fail
  go_loopw [7, 15] (fun s i wr => ∃ (k : Nat) (A : Option Addr) (c : Nat) (m : RMem), k ≤ nd ∧ i = .int .i64 k ∧ s = .slice A k c ∧ Hid (absR m = (runM (ds.take k) σ0).2) ∧ Hid (m.gone.length = m.obs.length) ∧
    Sep No w wr [blkI g 27 #[.slice AO nO cO, .slice AR nR cR], blkI (g + 1) 27 #[.slice none 0 0, .slice none 0 0], rmI Bm m, rowI 41 3 A k c (outsV (runM (ds.take k) σ0).1)]) (fun _ i _ => nd - (intOf i).toNat)
  case atStart => exact ⟨0, none, 0, s0, by omega, rfl, rfl, HAB, HGN, HS1.out⟩
  case round =>
    clear HS1 HAB HGN
    obtain ⟨k, A, c, m, hk, rfl, rfl, HA, HG, hS⟩ := hrel
    obtain ⟨hm1, hm2, hm3⟩ := runM_ok (ds.take k) HM.out
    have htl : (ds.take k).length = k := by rw [List.length_take, HDL.out]; omega
    rw [htl, HSO.out] at hm2
    rw [← HA.out] at hm1 hm2
    have hmo : (absR m).objs.length = m.obs.length := by simp [absR]
    have ok : ROk m := ⟨hm1, by omega, HG.out⟩
    have HOK := hide ok
    clear hm1 hm3 htl hmo ok
    by_cases hlt : k < nd
    · have hkl : k < ds.length := by rw [HDL.out]; exact hlt
      obtain ⟨v0, v1, v2, v3, v4⟩ := dosV_at ds k hkl
      obtain ⟨ad, hA, _, had, hc, hd⟩ := (hD.below hS.below_).atN hlt
      have e0 := hc _ v0
      have e1 := hd 0 _ v1
      have e2 := hd 1 _ v2
      have e3 := hd 2 _ v3
      have e4 := hd 3 _ v4
      have hrs := runM_snoc (ds.take k) ds[k] σ0
      rw [← List.take_succ_eq_append_getElem hkl, ← HA.out, stepM_rw] at hrs
      obtain ⟨d, hd'⟩ : ∃ d, ds[k] = d := ⟨_, rfl⟩
      rw [hd'] at e0 e1 e2 e3 e4 hrs
      have HRS := hide hrs
      obtain ⟨b9, hb9⟩ : ∃ x, wr.heap.size = x := ⟨_, rfl⟩
      have hS2 := hS.blkAt 39 d.cells hb9
      have CW := hide (rwrong_any (hS2.get 2 rfl) HOK.out d)
      have HS2 := hide hS2
      subst hA
      clear hc hd v0 v1 v2 v3 v4 hrs hd' hS2 hS
      obtain ⟨x, hx⟩ : ∃ x, rWrong d (absR m) = x := ⟨_, rfl⟩
      have hrs := HRS.out
      clear HRS
      have CW := CW.out
      rw [hx] at CW hrs
      have HX := hide hx
      have HCW := hide CW
      clear CW hx
      unfold DoV.cells at HCW HS2
      by_cases hxz : x = 0
      · subst hxz
        rw [if_neg (by simp)] at hrs
        have CD := hide (fun W (h : (rmI Bm m).P W) => rdo_any h HOK.out d HX.out)
        unfold RDoOk DoV.cells at CD
        obtain ⟨p, hp⟩ : ∃ p, stepK d (absR m) = p := ⟨_, rfl⟩
        rw [hp] at hrs
        simp only [hp] at CD
        obtain ⟨⟨oc, orf, on⟩, σ'⟩ := p
        unfold OutV.val at CD
        dsimp only at CD hrs
        have HRS := hide hrs
        clear hp hrs HX
        go_wp2_with fail
        refine HCW.out.mono ?_
        rintro e w3 ⟨rfl, hb3⟩
        have hS3 := HS2.out.below hb3
        obtain ⟨b1, b2, b3, b4⟩ := hS3.rules 4 (g := b9) (t := 39) rfl
        have f0 := (b1 0).trans (show _ = some (.int .i64 d.k) from rfl)
        have f1 := (b1 1).trans (show _ = some (.int .i64 d.to) from rfl)
        have f2 := (b1 2).trans (show _ = some (.int .i64 d.fr) from rfl)
        have f3 := (b1 3).trans (show _ = some (.int .i64 d.at_) from rfl)
        have f4 := (b1 4).trans (show _ = some (.int .i64 d.n) from rfl)
        have HS3 := hide hS3
        have CD3 := hide (CD.out w3 (hS3.get 2 rfl))
        clear b1 b4 hS3 hb3 CD HS2 HCW
        go_wp2_with fail
        refine CD3.out.mono ?_
        rintro e w4 ⟨m', rfl, hab', hP4, hg4, _⟩
        have hS4 := HS3.out.call 2 rfl hP4
        have HAB' := hide hab'
        have HG4 := hide hg4
        clear hP4 HS3 CD3 f0 f1 f2 f3 f4 b2 b3 hab' hg4
        go_wp2_with (first
          | (at_builtin
             refine wpList_app1 (cs := #[.int .i64 oc, .bool orf, .int .i64 on]) rfl (.tmp 29) (.tmp 33) 23 rfl (F := No) (W := w) sOut (items := _ :: _ :: _ :: _ :: _) hS4 3 (n := k) rfl rfl rfl (by simp) rfl rfl (by omega) ?_
             intro A6 c6 w6 hS6 hC6))
        go_roundw
        case rel => exact ⟨k + 1, A6, c6, m', by omega, by go_num, rfl, by rw [HRS.out]; exact HAB', HG4, by
          rw [HRS.out]
          dsimp only
          rw [outsV_app]
          exact hS6.sub (List.sublist_append_left [_, _, _, _] _)⟩
        case measure => simp [intOf]; omega
      · have y1 : (x != 0) = true := by rw [bne_iff_ne]; exact hxz
        rw [if_pos hxz] at hrs
        have HRS := hide hrs
        clear hrs HX hxz
        go_wp2_with fail
        refine HCW.out.mono ?_
        rintro e w3 ⟨rfl, hb3⟩
        have hS3 := HS2.out.below hb3
        clear hb3 HS2 HCW
        go_wp2_with (first
          | (at_builtin
             refine wpList_app1 (cs := #[.int .i64 x, .bool false, .int .i64 0]) rfl (.tmp 24) (.tmp 27) 23 rfl (F := No) (W := w) sOut (items := _ :: _ :: _ :: _ :: _) hS3 3 (n := k) rfl rfl rfl (by simp) rfl rfl (by omega) ?_
             intro A6 c6 w6 hS6 hC6))
        go_roundw
        case rel => exact ⟨k + 1, A6, c6, m, by omega, by go_num, rfl, by rw [HRS.out]; exact rfl, HG, by
          rw [HRS.out]
          dsimp only
          rw [outsV_app]
          exact hS6.sub (List.sublist_append_left [_, _, _, _] _)⟩
        case measure => simp [intOf]; omega
    · obtain rfl : k = nd := by omega
      rw [List.take_of_length_le (by rw [HDL.out]; omega)] at HA hS
      have CG := rgraph_any (hS.get 2 rfl) HOK.out
      rw [show m.regs = (absR m).regs from rfl, HA.out] at CG
      have HCG := hide CG
      have HS := hide hS
      clear CG hS
      go_wp2_with fail
      refine HCG.out.mono ?_
      rintro e w3 ⟨v', rfl, hb3, hg3⟩
      obtain ⟨B5, n5, d5, B6, n6, d6, obs', rfl, hO5, hF5, hR6⟩ := hg3.ex
      have hS3 := HS.out.below hb3
      obtain ⟨x1, x2, x3, x4⟩ := hS3.rules 1 (g := g + 1) (t := 27) rfl
      have hsz : g + 1 < wr.heap.size := HS.out.hi 1 rfl _ rfl
      have hws : w.heap.size ≤ wr.heap.size := HS.out.below_.size
      have HG3 := hide hg3
      have HS3 := hide hS3
      clear hO5 hF5 hR6 hS3 hg3 hb3 HS HCG x4
      go_wp2_with fail
      have hF := (HS3.out.set_ 1 (g := g + 1) (t := 27) rfl 0 (.slice B5 n5 d5)).set_ 1 (g := g + 1) (t := 27) rfl 1 (.slice B6 n6 d6)
      refine bodyPost_ret (v := .tuple #[.slice A k c, .agg #[.slice B5 n5 d5, .slice B6 n6 d6]]) (by simp [results, Try.results35, go_sem, x1]) rfl ⟨A, k, c, _, rfl, hF.below_, hF.rd 3 rfl, ?_⟩
      have hc : Chg (fun g' => g' = g + 1) w3 ((w3.setCell ⟨g + 1, 0, none⟩ (.slice B5 n5 d5)).setCell ⟨g + 1, 1, none⟩ (.slice B6 n6 d6)) := ((Chg.refl (fun g' => g' = g + 1) w3).setCell (p := ⟨g + 1, 0, none⟩) (.inl rfl) _).setCell (p := ⟨g + 1, 1, none⟩) (.inl rfl) _
      obtain ⟨C5, m5, k5, C6, m6, k6, obs2, he, hO5, hF5, hR6⟩ := HG3.out.ex
      exact ⟨C5, m5, k5, C6, m6, k6, obs2, he, (hO5.chg hc (fun g' hg hd => by subst hg; omega)).more (fun k _ hk => by omega), hF5, (hR6.chg hc (fun g' hg hd => by subst hg; omega)).more (fun k _ hk => by omega)⟩
end Go.Proofs.Ytjphckfbbiehdaa

namespace Go.Proofs.Ytjphckfbbiehdaa
open Go.RowKit

theorem eight (l : List Val) (h : l.length = 8) : ∃ p0 p1 p2 p3 p4 p5 p6 p7, l = [p0, p1, p2, p3, p4, p5, p6, p7] := by
  match l, h with
  | [a0, a1, a2, a3, a4, a5, a6, a7], _ => exact ⟨a0, a1, a2, a3, a4, a5, a6, a7, rfl⟩
def playErr (nO nR nd : Nat) (obs : List Ob) (roots : List Val) : Int := if gcheck nO nR obs roots ≠ 0 then gcheck nO nR obs roots else if 100 < nd then 1 else 0
theorem idl_ptrs {Bm Be : Nat} {s : Idl} {w : World} (hP : (idI Bm Be s).P w) : PtrsRd w s.As s.ps.length (s.ps.map fun p => (some p.B, p.o)) := by
  have hS := (Sep.start hP).flat
  refine ⟨?_, ?_, ?_⟩
  · rw [List.map_map]
    exact Rd.of_own (D := fun _ => True) (show w.ownsRow 0 170 1 (.slice s.As s.ps.length s.c) s.ps.length _ from hS.get 2 rfl) (fun _ _ => trivial)
  · intro q hq B hB
    obtain ⟨p, hp, rfl⟩ := List.mem_map.1 hq
    injection hB with hB
    subst hB
    have h1 := hS.all (poI p) (mem_poI hp)
    have hb : Blk w p.B 119 #[.slice p.o.A p.o.n p.o.c] := h1.1 (blkI p.B 119 #[.slice p.o.A p.o.n p.o.c]) (by simp)
    have hr : (obI p.o).P w := h1.1 (obI p.o) (by simp)
    exact ⟨hb.lt, (hb.cell 0).trans rfl, Rd.of_own (D := fun _ => True) (show w.ownsRow 0 107 2 (.slice p.o.A p.o.n p.o.c) p.o.n _ from hr) (fun _ _ => trivial)⟩
  · intro q hq h
    obtain ⟨p, _, rfl⟩ := List.mem_map.1 hq
    cases h

theorem idl_sel {Bm Be : Nat} {m : Idl} {X : World} {q0 q1 q2 q3 q4 q5 q6 q7 : Val} (hP : (idI Bm Be m).P X) (hq : m.regs = [q0, q1, q2, q3, q4, q5, q6, q7]) : X.cell? ⟨Be, 0, none⟩ = some (.slice m.As m.ps.length m.c) ∧ X.cell? ⟨Bm, 0, none⟩ = some (.bool q0.1) ∧ X.cell? ⟨Bm, 1, none⟩ = some (.int .i64 q0.2) ∧ X.cell? ⟨Bm, 2, none⟩ = some (.bool q1.1) ∧ X.cell? ⟨Bm, 3, none⟩ = some (.int .i64 q1.2) ∧ X.cell? ⟨Bm, 4, none⟩ = some (.bool q2.1) ∧ X.cell? ⟨Bm, 5, none⟩ = some (.int .i64 q2.2) ∧ X.cell? ⟨Bm, 6, none⟩ = some (.bool q3.1) ∧ X.cell? ⟨Bm, 7, none⟩ = some (.int .i64 q3.2) ∧ X.cell? ⟨Bm, 8, none⟩ = some (.bool q4.1) ∧ X.cell? ⟨Bm, 9, none⟩ = some (.int .i64 q4.2) ∧ X.cell? ⟨Bm, 10, none⟩ = some (.bool q5.1) ∧ X.cell? ⟨Bm, 11, none⟩ = some (.int .i64 q5.2) ∧ X.cell? ⟨Bm, 12, none⟩ = some (.bool q6.1) ∧ X.cell? ⟨Bm, 13, none⟩ = some (.int .i64 q6.2) ∧ X.cell? ⟨Bm, 14, none⟩ = some (.bool q7.1) ∧ X.cell? ⟨Bm, 15, none⟩ = some (.int .i64 q7.2) := by
  have hS := (Sep.start hP).flat
  obtain ⟨b1, _, _, _⟩ := hS.rules 1 (g := Be) (t := 185) rfl
  obtain ⟨c1, _, _, _⟩ := hS.rules 0 (g := Bm) (t := 113) rfl
  rw [hq] at c1
  exact ⟨(b1 0).trans rfl, (c1 0).trans rfl, (c1 1).trans rfl, (c1 2).trans rfl, (c1 3).trans rfl, (c1 4).trans rfl, (c1 5).trans rfl, (c1 6).trans rfl, (c1 7).trans rfl, (c1 8).trans rfl, (c1 9).trans rfl, (c1 10).trans rfl, (c1 11).trans rfl, (c1 12).trans rfl, (c1 13).trans rfl, (c1 14).trans rfl, (c1 15).trans rfl⟩

set_option maxRecDepth 100000 in
set_option maxHeartbeats 8000000 in
theorem idealPlay_no (w : World) (AO AR Ad : Option Addr) (nO cO nR cR nd cd : Nat) (obs : List Ob) (roots : List Val) (hO : ObsRd w (fun _ => True) AO nO obs) (hR : Rd w (fun _ => True) 2 AR nR (vals roots)) (hz : playErr nO nR nd obs roots ≠ 0) :
    Calls Try.prog 34 #[.agg #[.slice AO nO cO, .slice AR nR cR], .slice Ad nd cd] w fun e w' => e = .returned (.tuple #[.slice none 0 0, .agg #[.slice none 0 0, .slice none 0 0], .int .i64 (playErr nO nR nd obs roots)]) ∧ Below w.heap.size w w' := by
  obtain ⟨g, hg⟩ : ∃ g, w.heap.size = g := ⟨_, rfl⟩
  have hS0 := ((Sep.nil No w).blkAt 27 #[.slice AO nO cO, .slice AR nR cR] hg).blkAt 27 #[.slice none 0 0, .slice none 0 0] (g := g + 1) (by simp [hg])
  have C1 := hide (graphCheck_any _ AO AR nO cO nR cR obs roots (hO.below hS0.below_) (hR.below hS0.below_))
  obtain ⟨a1, a2, a3, a4⟩ := hS0.rules 0 (g := g) (t := 27) rfl
  have HS0 := hide hS0
  unfold playErr at hz ⊢
  obtain ⟨x, hx⟩ : ∃ x, gcheck nO nR obs roots = x := ⟨_, rfl⟩
  rw [hx] at C1 hz ⊢
  clear hS0 a4 hO hR hx
  by_cases h0 : x = 0
  · subst h0
    rw [if_neg (by simp)] at hz ⊢
    by_cases hnd : 100 < nd
    · rw [if_pos hnd]
      have t1 : decide ((100 : Int) < (nd : Int)) = true := by simp; omega
      have t2 : decide (100 < nd) = true := by simp; omega
      clear hz
      go_enter Try.func34, Try.ntmps34
      go_wp2_with fail
      refine C1.out.mono ?_
      rintro e w1 ⟨rfl, hb1⟩
      have hS1 := HS0.out.below hb1
      obtain ⟨x1, x2, x3, x4⟩ := hS1.rules 1 (g := g + 1) (t := 27) rfl
      have HS1 := hide hS1
      clear hb1 hS1 HS0 C1 a1 a2 a3 x4
      go_wp2_with fail
      have hF := (HS1.out.set_ 1 (g := g + 1) (t := 27) rfl 0 (.slice none 0 0)).set_ 1 (g := g + 1) (t := 27) rfl 1 (.slice none 0 0)
      refine bodyPost_ret (v := .tuple #[.slice none 0 0, .agg #[.slice none 0 0, .slice none 0 0], .int .i64 1]) (by simp [results, Try.results34, go_sem, x1]) rfl ⟨rfl, hF.below_⟩
    · rw [if_neg hnd] at hz
      exact absurd rfl hz
  · rw [if_pos h0]
    have y1 : (x != 0) = true := by rw [bne_iff_ne]; exact h0
    clear hz h0
    go_enter Try.func34, Try.ntmps34
    go_wp2_with fail
    refine C1.out.mono ?_
    rintro e w1 ⟨rfl, hb1⟩
    have hS1 := HS0.out.below hb1
    obtain ⟨x1, x2, x3, x4⟩ := hS1.rules 1 (g := g + 1) (t := 27) rfl
    have HS1 := hide hS1
    clear hb1 hS1 HS0 C1 a1 a2 a3 x4
    go_wp2_with fail
    have hF := (HS1.out.set_ 1 (g := g + 1) (t := 27) rfl 0 (.slice none 0 0)).set_ 1 (g := g + 1) (t := 27) rfl 1 (.slice none 0 0)
    refine bodyPost_ret (v := .tuple #[.slice none 0 0, .agg #[.slice none 0 0, .slice none 0 0], .int .i64 x]) (by simp [results, Try.results34, go_sem, x1]) rfl ⟨rfl, hF.below_⟩

set_option maxRecDepth 100000 in
set_option maxHeartbeats 32000000 in
theorem idealPlay_ok (w : World) (AO AR Ad : Option Addr) (nO cO nR cR nd cd : Nat) (obs : List Ob) (roots : List Val) (gs : List (List Val)) (ds : List DoV) (hgs : obs.map Ob.fields = gs) (hO : ObsRd w (fun _ => True) AO nO obs) (hR : Rd w (fun _ => True) 2 AR nR (vals roots)) (hcp : ∀ o ∈ obs, o.A = none → o.c = 0) (hz : playErr nO nR nd obs roots = 0)
    (hM : MOk ⟨padR roots nR, gs⟩) (hD : Rd w (fun _ => True) 5 Ad nd (dosV ds)) :
    Calls Try.prog 34 #[.agg #[.slice AO nO cO, .slice AR nR cR], .slice Ad nd cd] w fun e w' => ∃ A c v', e = .returned (.tuple #[.slice A nd c, v', .int .i64 0]) ∧ Below w.heap.size w w' ∧ Rd w' (fun g => w.heap.size ≤ g) 3 A nd (outsV (runM ds ⟨padR roots nR, gs⟩).1) ∧ GraphRd w' (fun g => w.heap.size ≤ g) v' (renumF (runM ds ⟨padR roots nR, gs⟩).2.objs (order (runM ds ⟨padR roots nR, gs⟩).2.objs (runM ds ⟨padR roots nR, gs⟩).2.regs)) ((runM ds ⟨padR roots nR, gs⟩).2.regs.map (turnL (order (runM ds ⟨padR roots nR, gs⟩).2.objs (runM ds ⟨padR roots nR, gs⟩).2.regs))) := by
  obtain ⟨hx, hnd⟩ : gcheck nO nR obs roots = 0 ∧ nd ≤ 100 := by
    unfold playErr at hz
    split at hz
    · rename_i h; exact absurd hz h
    · rename_i h
      split at hz
      · omega
      · exact ⟨by omega, by omega⟩
  have hG := gok_of hO hx
  have hnO := hG.nO_
  have hnR := hG.nR_
  have HDL := hide (show ds.length = nd by have := hD.1; rw [dosV_length] at this; omega)
  have hgl : gs.length = nO := by rw [← hgs, List.length_map]; exact hO.len
  obtain ⟨g, hg⟩ : ∃ g, w.heap.size = g := ⟨_, rfl⟩
  have hS0 := ((Sep.nil No w).blkAt 27 #[.slice AO nO cO, .slice AR nR cR] hg).blkAt 27 #[.slice none 0 0, .slice none 0 0] (g := g + 1) (by simp [hg])
  have C1 := graphCheck_any _ AO AR nO cO nR cR obs roots (hO.below hS0.below_) (hR.below hS0.below_)
  rw [hx] at C1
  replace C1 := hide C1
  have CO := hide (fun w' (hb : Below w.heap.size w w') => heapOf_any w' AO AR nO cO nR cR obs gs hgs (hO.below hb) hnO hG.fl hcp)
  have CI := hide (fun w' (hb : Below w.heap.size w w') => heapFirst_any w' AO AR nO cO nR cR roots (hR.below hb) hnR)
  obtain ⟨PR, hPR⟩ : ∃ l, padR roots nR = l := ⟨_, rfl⟩
  rw [hPR] at hM ⊢
  simp only [hPR] at CI
  obtain ⟨p0, p1, p2, p3, p4, p5, p6, p7, hp⟩ := eight PR hM.r8
  obtain ⟨σ0, hσ⟩ : ∃ σ, (⟨PR, gs⟩ : MSt) = σ := ⟨_, rfl⟩
  rw [hσ] at hM ⊢
  have HSG := hide hσ
  have HSO := hide (show σ0.objs.length = nO by rw [← hσ]; exact hgl)
  have HM := hide hM
  subst hp
  have hCI2 : ∀ w' (hb : Below w.heap.size w w'), Calls Try.prog 72 #[.agg #[.slice AO nO cO, .slice AR nR cR]] w' fun e w2 => e = .returned (.agg #[.bool p0.1, .int .i64 p0.2, .bool p1.1, .int .i64 p1.2, .bool p2.1, .int .i64 p2.2, .bool p3.1, .int .i64 p3.2, .bool p4.1, .int .i64 p4.2, .bool p5.1, .int .i64 p5.2, .bool p6.1, .int .i64 p6.2, .bool p7.1, .int .i64 p7.2]) ∧ Below w'.heap.size w' w2 := CI.out
  replace CI := hide hCI2
  obtain ⟨a1, a2, a3, a4⟩ := hS0.rules 0 (g := g) (t := 27) rfl
  have a5 := (a1 0).trans (show _ = some (.slice AO nO cO) from rfl)
  have a6 := (a1 1).trans (show _ = some (.slice AR nR cR) from rfl)
  have HS0 := hide hS0
  have t1 : decide ((100 : Int) < (nd : Int)) = false := by simp; omega
  have t2 : decide (100 < nd) = false := by simp; omega
  clear hgs hO hR hgl hS0 hM hCI2 hG hcp hz hx hσ hPR a1 a4
  go_enter Try.func34, Try.ntmps34
  go_wp2_with fail
  refine C1.out.mono ?_
  rintro e w1 ⟨rfl, hb1⟩
  have hS1 := HS0.out.below hb1
  have CO1 := hide (CO.out w1 hS1.below_)
  obtain ⟨b1, b2, b3, b4⟩ := hS1.rules 0 (g := g) (t := 27) rfl
  have b5 := (b1 0).trans (show _ = some (.slice AO nO cO) from rfl)
  have b6 := (b1 1).trans (show _ = some (.slice AR nR cR) from rfl)
  have HS1 := hide hS1
  clear hb1 hS1 HS0 C1 CO a2 a3 a5 a6 b1 b4
  go_wp2_with fail
  refine CO1.out.mono ?_
  rintro e w2 ⟨As, c2, ps, rfl, hpl, hpf, hP2⟩
  obtain ⟨Be, hBe⟩ : ∃ x, w2.heap.size = x := ⟨_, rfl⟩
  have hS2 := ((HS1.out.snocNew hP2.below_ (allI (rowI 170 1 As nO c2 (ps.map poPtr) :: ps.map poI)) (hP2.fold.get 0 rfl) (fun g hg => (hP2.fold.lo 0 rfl g hg).resolve_left (fun h => h))).blkAt 185 #[.slice As nO c2] (g := Be) hBe)
  obtain ⟨b1, b2, b3, b4⟩ := hS2.rules 0 (g := g) (t := 27) rfl
  have b5 := (b1 0).trans (show _ = some (.slice AO nO cO) from rfl)
  have b6 := (b1 1).trans (show _ = some (.slice AR nR cR) from rfl)
  have CI2 := hide (CI.out _ hS2.below_)
  have HS2 := hide hS2
  have HPL := hide hpl
  have HPF := hide hpf
  clear hP2 hS2 HS1 CO1 CI b1 b4 hpl hpf
  go_wp2_with fail
  refine CI2.out.mono ?_
  rintro e w3 ⟨rfl, hb3⟩
  obtain ⟨Bm, hBm⟩ : ∃ x, w3.heap.size = x := ⟨_, rfl⟩
  have hS3 := ((HS2.out.below hb3).blkAt 113 #[.bool p0.1, .int .i64 p0.2, .bool p1.1, .int .i64 p1.2, .bool p2.1, .int .i64 p2.2, .bool p3.1, .int .i64 p3.2, .bool p4.1, .int .i64 p4.2, .bool p5.1, .int .i64 p5.2, .bool p6.1, .int .i64 p6.2, .bool p7.1, .int .i64 p7.2, idF Be] (g := Bm) hBm).nilRow 41 3
  have hS3b : Sep No w (w3.alloc (.cells #[.bool p0.1, .int .i64 p0.2, .bool p1.1, .int .i64 p1.2, .bool p2.1, .int .i64 p2.2, .bool p3.1, .int .i64 p3.2, .bool p4.1, .int .i64 p4.2, .bool p5.1, .int .i64 p5.2, .bool p6.1, .int .i64 p6.2, .bool p7.1, .int .i64 p7.2, idF Be] 113)) [blkI g 27 #[.slice AO nO cO, .slice AR nR cR], blkI (g + 1) 27 #[.slice none 0 0, .slice none 0 0], idI Bm Be ⟨As, c2, ps, [p0, p1, p2, p3, p4, p5, p6, p7]⟩, rowI 41 3 none 0 0 []] := by
    have hl : ps.length = nO := HPL.out
    have h1 := hS3.perm (l := [allI (rowI 170 1 As nO c2 (ps.map poPtr) :: ps.map poI), blkI g 27 #[.slice AO nO cO, .slice AR nR cR], blkI (g + 1) 27 #[.slice none 0 0, .slice none 0 0], blkI Be 185 #[.slice As nO c2], blkI Bm 113 #[.bool p0.1, .int .i64 p0.2, .bool p1.1, .int .i64 p1.2, .bool p2.1, .int .i64 p2.2, .bool p3.1, .int .i64 p3.2, .bool p4.1, .int .i64 p4.2, .bool p5.1, .int .i64 p5.2, .bool p6.1, .int .i64 p6.2, .bool p7.1, .int .i64 p7.2, idF Be], rowI 41 3 none 0 0 []]) ((List.perm_append_comm (l₁ := [_, _]) (l₂ := [_])).append_right [_, _, _])
    have h2 := h1.split
    have h3 := h2.perm (l := (blkI Bm 113 #[.bool p0.1, .int .i64 p0.2, .bool p1.1, .int .i64 p1.2, .bool p2.1, .int .i64 p2.2, .bool p3.1, .int .i64 p3.2, .bool p4.1, .int .i64 p4.2, .bool p5.1, .int .i64 p5.2, .bool p6.1, .int .i64 p6.2, .bool p7.1, .int .i64 p7.2, idF Be] :: blkI Be 185 #[.slice As nO c2] :: rowI 170 1 As nO c2 (ps.map poPtr) :: ps.map poI) ++ [blkI g 27 #[.slice AO nO cO, .slice AR nR cR], blkI (g + 1) 27 #[.slice none 0 0, .slice none 0 0], rowI 41 3 none 0 0 []]) (by
      refine (List.perm_append_comm (l₁ := rowI 170 1 As nO c2 (ps.map poPtr) :: ps.map poI) (l₂ := [_, _, _, _, _])).trans ?_
      refine (List.Perm.trans (l₂ := [blkI Bm 113 #[.bool p0.1, .int .i64 p0.2, .bool p1.1, .int .i64 p1.2, .bool p2.1, .int .i64 p2.2, .bool p3.1, .int .i64 p3.2, .bool p4.1, .int .i64 p4.2, .bool p5.1, .int .i64 p5.2, .bool p6.1, .int .i64 p6.2, .bool p7.1, .int .i64 p7.2, idF Be], blkI Be 185 #[.slice As nO c2]] ++ ([blkI g 27 #[.slice AO nO cO, .slice AR nR cR], blkI (g + 1) 27 #[.slice none 0 0, .slice none 0 0], rowI 41 3 none 0 0 []] ++ (rowI 170 1 As nO c2 (ps.map poPtr) :: ps.map poI))) ?_ ?_)
      · refine List.Perm.append_right (l₁ := [blkI g 27 #[.slice AO nO cO, .slice AR nR cR], blkI (g + 1) 27 #[.slice none 0 0, .slice none 0 0], blkI Be 185 #[.slice As nO c2], blkI Bm 113 #[.bool p0.1, .int .i64 p0.2, .bool p1.1, .int .i64 p1.2, .bool p2.1, .int .i64 p2.2, .bool p3.1, .int .i64 p3.2, .bool p4.1, .int .i64 p4.2, .bool p5.1, .int .i64 p5.2, .bool p6.1, .int .i64 p6.2, .bool p7.1, .int .i64 p7.2, idF Be], rowI 41 3 none 0 0 []]) (l₂ := [blkI Bm 113 #[.bool p0.1, .int .i64 p0.2, .bool p1.1, .int .i64 p1.2, .bool p2.1, .int .i64 p2.2, .bool p3.1, .int .i64 p3.2, .bool p4.1, .int .i64 p4.2, .bool p5.1, .int .i64 p5.2, .bool p6.1, .int .i64 p6.2, .bool p7.1, .int .i64 p7.2, idF Be], blkI Be 185 #[.slice As nO c2], blkI g 27 #[.slice AO nO cO, .slice AR nR cR], blkI (g + 1) 27 #[.slice none 0 0, .slice none 0 0], rowI 41 3 none 0 0 []]) _ ?_
        refine (List.perm_append_comm (l₁ := [_, _]) (l₂ := [_, _, _])).trans ?_
        exact (List.Perm.swap _ _ _).trans (List.Perm.append_left [_, _] (List.perm_append_comm (l₁ := [_]) (l₂ := [_, _])))
      · exact List.Perm.append_left [_, _] (List.perm_append_comm (l₁ := [_, _, _])))
    have h4 := h3.join
    have h5 := h4.perm (l := [blkI g 27 #[.slice AO nO cO, .slice AR nR cR], blkI (g + 1) 27 #[.slice none 0 0, .slice none 0 0], allI (blkI Bm 113 #[.bool p0.1, .int .i64 p0.2, .bool p1.1, .int .i64 p1.2, .bool p2.1, .int .i64 p2.2, .bool p3.1, .int .i64 p3.2, .bool p4.1, .int .i64 p4.2, .bool p5.1, .int .i64 p5.2, .bool p6.1, .int .i64 p6.2, .bool p7.1, .int .i64 p7.2, idF Be] :: blkI Be 185 #[.slice As nO c2] :: rowI 170 1 As nO c2 (ps.map poPtr) :: ps.map poI), rowI 41 3 none 0 0 []]) ((List.perm_append_comm (l₁ := [_]) (l₂ := [_, _])).append_right [_])
    unfold idI idL
    dsimp only
    rw [hl]
    exact h5
  have HS3 := hide hS3b
  have HAB := hide (show absI ⟨As, c2, ps, [p0, p1, p2, p3, p4, p5, p6, p7]⟩ = (runM (ds.take 0) σ0).2 from by
    rw [List.take_zero]
    show _ = σ0
    rw [← HSG.out]
    unfold absI
    dsimp only
    rw [HPF.out])
  clear hb3 hS3 hS3b HS2 CI2 b2 b3 b5 b6 HPL HPF
  go_wp2_with fail
  go_loopw [10, 35] (fun s i wr => ∃ (k : Nat) (A : Option Addr) (c : Nat) (m : Idl), k ≤ nd ∧ i = .int .i64 k ∧ s = .slice A k c ∧ Hid (absI m = (runM (ds.take k) σ0).2) ∧
    Sep No w wr [blkI g 27 #[.slice AO nO cO, .slice AR nR cR], blkI (g + 1) 27 #[.slice none 0 0, .slice none 0 0], idI Bm Be m, rowI 41 3 A k c (outsV (runM (ds.take k) σ0).1)]) (fun _ i _ => nd - (intOf i).toNat)
  case atStart => exact ⟨0, none, 0, _, by omega, rfl, rfl, HAB.out, HS3.out⟩
  case round =>
    clear HS3 HAB
    obtain ⟨k, A, c, m, hk, rfl, rfl, HA, hS⟩ := hrel
    obtain ⟨hm1, hm2, hm3⟩ := runM_ok (ds.take k) HM.out
    have htl : (ds.take k).length = k := by rw [List.length_take, HDL.out]; omega
    rw [htl, HSO.out] at hm2
    rw [← HA.out] at hm1 hm2
    have hmo : (absI m).objs.length = m.ps.length := by simp [absI]
    have ok : IOk m := ⟨hm1, by omega⟩
    have HOK := hide ok
    clear hm1 hm3 htl hmo ok
    by_cases hlt : k < nd
    · have hkl : k < ds.length := by rw [HDL.out]; exact hlt
      obtain ⟨v0, v1, v2, v3, v4⟩ := dosV_at ds k hkl
      obtain ⟨ad, hA, _, had, hc, hd⟩ := (hD.below hS.below_).atN hlt
      have e0 := hc _ v0
      have e1 := hd 0 _ v1
      have e2 := hd 1 _ v2
      have e3 := hd 2 _ v3
      have e4 := hd 3 _ v4
      have hrs := runM_snoc (ds.take k) ds[k] σ0
      rw [← List.take_succ_eq_append_getElem hkl, ← HA.out] at hrs
      obtain ⟨d, hd'⟩ : ∃ d, ds[k] = d := ⟨_, rfl⟩
      rw [hd'] at e0 e1 e2 e3 e4 hrs
      obtain ⟨b9, hb9⟩ : ∃ x, wr.heap.size = x := ⟨_, rfl⟩
      have hS2 := hS.blkAt 39 d.cells hb9
      have CD := do_any (hS2.get 2 rfl) HOK.out d
      unfold DoOk at CD
      obtain ⟨p, hp⟩ : ∃ p, stepM d (absI m) = p := ⟨_, rfl⟩
      rw [hp] at hrs CD
      obtain ⟨⟨oc, orf, on⟩, σ'⟩ := p
      unfold OutV.val DoV.cells at CD
      dsimp only at CD hrs
      unfold DoV.cells at hS2
      have HRS := hide hrs
      have HCD := hide CD
      have HS2 := hide hS2
      subst hA
      clear hc hd v0 v1 v2 v3 v4 hrs hd' hS2 hS CD hp
      go_wp2_with fail
      refine HCD.out.mono ?_
      rintro e w4 ⟨m', rfl, hab', hP4⟩
      have hS4 := HS2.out.call 2 rfl hP4
      have HAB' := hide hab'
      clear hP4 HS2 HCD hab'
      go_wp2_with (first
        | (at_builtin
           refine wpList_app1 (cs := #[.int .i64 oc, .bool orf, .int .i64 on]) rfl (.tmp 39) (.tmp 43) 23 rfl (F := No) (W := w) sOut (items := _ :: _ :: _ :: _ :: _) hS4 3 (n := k) rfl rfl rfl (by simp) rfl rfl (by omega) ?_
           intro A6 c6 w6 hS6 hC6))
      go_roundw
      case rel => exact ⟨k + 1, A6, c6, m', by omega, by go_num, rfl, by rw [HRS.out]; exact HAB'.out, by
        rw [HRS.out]
        dsimp only
        rw [outsV_app]
        exact hS6.sub (List.sublist_append_left [_, _, _, _] _)⟩
      case measure => simp [intOf]; omega
    · obtain rfl : k = nd := by omega
      rw [List.take_of_length_le (by rw [HDL.out]; omega)] at HA hS
      have hr8 : m.regs.length = 8 := HOK.out.m.r8
      have hml := HOK.out.n
      have CG := hide (fun (X : World) (hP : (idI Bm Be m).P X) => heapGraph_any X m.As m.ps.length m.c (m.ps.map fun p => (some p.B, p.o)) m.regs (absI m).objs (by rw [List.map_map]; rfl) (idl_ptrs hP) (by omega) hr8 (fun q hq => by
        obtain ⟨p, hp, rfl⟩ := List.mem_map.1 hq
        have h1 := Idl.fields_len (Sep.start hP).flat hp
        have h2 := HOK.out.m.f4 p.o.fields (List.mem_map.2 ⟨p, hp, rfl⟩)
        show p.o.n ≤ 4
        omega) HOK.out.m.vr HOK.out.m.vo)
      obtain ⟨q0, q1, q2, q3, q4, q5, q6, q7, hq⟩ := eight m.regs hr8
      obtain ⟨b1, b2, b3, _⟩ := ((Sep.start (hS.get 2 rfl)).flat).rules 1 (g := Be) (t := 185) rfl
      have b5 := (b1 0).trans (show _ = some (.slice m.As m.ps.length m.c) from rfl)
      obtain ⟨_, d0, d1, d2, d3, d4, d5, d6, d7, d8, d9, d10, d11, d12, d13, d14, d15⟩ := idl_sel (hS.get 2 rfl) hq
      obtain ⟨_, _, c3, _⟩ := ((Sep.start (hS.get 2 rfl)).flat).rules 0 (g := Bm) (t := 113) rfl
      obtain ⟨FF, hFF⟩ : ∃ F, renumF (absI m).objs (order (absI m).objs m.regs) = F := ⟨_, rfl⟩
      obtain ⟨RR, hRR⟩ : ∃ F, m.regs.map (turnL (order (absI m).objs m.regs)) = F := ⟨_, rfl⟩
      simp only [hFF, hRR] at CG
      have HFF := hide hFF
      have HRR := hide hRR
      rw [hq] at CG
      have hCG2 : ∀ (X : World) (hP : (idI Bm Be m).P X), Calls Try.prog 44 #[.slice m.As m.ps.length m.c, .agg #[.bool q0.1, .int .i64 q0.2, .bool q1.1, .int .i64 q1.2, .bool q2.1, .int .i64 q2.2, .bool q3.1, .int .i64 q3.2, .bool q4.1, .int .i64 q4.2, .bool q5.1, .int .i64 q5.2, .bool q6.1, .int .i64 q6.2, .bool q7.1, .int .i64 q7.2]] X fun e w' => ∃ v', e = .returned v' ∧ Below X.heap.size X w' ∧ GraphRd w' (fun g => X.heap.size ≤ g) v' FF RR := CG.out
      have CG3 := hide (hCG2 wr.drew (hS.drew.get 2 rfl))
      have HS := hide hS
      have n1 : g + 1 ≠ Be := fun e => hS.other (a := 1) (b := 2) rfl rfl (by omega) (g + 1) rfl ⟨blkI Be 185 #[.slice m.As m.ps.length m.c], by simp [idL], e⟩
      have n2 : g + 1 ≠ Bm := fun e => hS.other (a := 1) (b := 2) rfl rfl (by omega) (g + 1) rfl ⟨blkI Bm 113 (mcCells m.regs (idF Be)), by simp [idL], e⟩
      have n3 : Be ≠ g + 1 := fun e => n1 e.symm
      have n4 : Bm ≠ g + 1 := fun e => n2 e.symm
      have HSEL := hide (fun (X : World) (hP : (idI Bm Be m).P X) => idl_sel hP hq)
      obtain ⟨ml, hmll⟩ : ∃ x, m.ps.length = x := ⟨_, rfl⟩
      obtain ⟨mA, hmA⟩ : ∃ x, m.As = x := ⟨_, rfl⟩
      obtain ⟨mc, hmc⟩ : ∃ x, m.c = x := ⟨_, rfl⟩
      rw [hmll, hmA, hmc] at b5 CG3 HSEL
      clear CG hCG2 hS b1 hFF hRR hq hmll hmA hmc hr8 hml hk
      go_wp2_with fail

      have zz : wr.drew.cell? ⟨Be, 0, none⟩ = some (.slice mA ml mc) := b5
      go_region_held3 (fun w' => w'.cell? ⟨Be, 0, none⟩ = some (.slice mA ml mc) ∧ w'.cell? ⟨Bm, 0, none⟩ = some (.bool q0.1) ∧ w'.cell? ⟨Bm, 1, none⟩ = some (.int .i64 q0.2) ∧ w'.cell? ⟨Bm, 2, none⟩ = some (.bool q1.1) ∧ w'.cell? ⟨Bm, 3, none⟩ = some (.int .i64 q1.2) ∧ w'.cell? ⟨Bm, 4, none⟩ = some (.bool q2.1) ∧ w'.cell? ⟨Bm, 5, none⟩ = some (.int .i64 q2.2) ∧ w'.cell? ⟨Bm, 6, none⟩ = some (.bool q3.1) ∧ w'.cell? ⟨Bm, 7, none⟩ = some (.int .i64 q3.2) ∧ w'.cell? ⟨Bm, 8, none⟩ = some (.bool q4.1) ∧ w'.cell? ⟨Bm, 9, none⟩ = some (.int .i64 q4.2) ∧ w'.cell? ⟨Bm, 10, none⟩ = some (.bool q5.1) ∧ w'.cell? ⟨Bm, 11, none⟩ = some (.int .i64 q5.2) ∧ w'.cell? ⟨Bm, 12, none⟩ = some (.bool q6.1) ∧ w'.cell? ⟨Bm, 13, none⟩ = some (.int .i64 q6.2) ∧ w'.cell? ⟨Bm, 14, none⟩ = some (.bool q7.1) ∧ w'.cell? ⟨Bm, 15, none⟩ = some (.int .i64 q7.2)) (first | go_keep | (simp only [World.cell?_drew]; assumption) | assumption)
        ((go_at_call 44; (with_reducible refine CG3.out.mono ?_); rintro e w4 ⟨v', rfl, hb4, hg4⟩; obtain ⟨B5, n5, d5', B6, n6, d6', obs', rfl, hO5, hF5, hR6⟩ := hg4.ex; have hS4 := HS.out.drew.below hb4; obtain ⟨e16, e0, e1, e2, e3, e4, e5, e6, e7, e8, e9, e10, e11, e12, e13, e14, e15⟩ := HSEL.out w4 (hS4.get 2 rfl); obtain ⟨x1, x2, x3, x4⟩ := hS4.rules 1 (g := g + 1) (t := 27) rfl; have HG4 := hide hg4; have HS4 := hide hS4; clear hO5 hF5 hR6 hS4 hg4 hb4 x4))
      all_goals
        have hsz : g + 1 < wr.drew.heap.size := HS.out.drew.hi 1 rfl _ rfl
        have hws : w.heap.size ≤ wr.drew.heap.size := HS.out.drew.below_.size
        go_wp2_with fail
        have hF := (HS4.out.set_ 1 (g := g + 1) (t := 27) rfl 0 (.slice B5 n5 d5')).set_ 1 (g := g + 1) (t := 27) rfl 1 (.slice B6 n6 d6')
        refine bodyPost_ret (v := .tuple #[.slice A k c, .agg #[.slice B5 n5 d5', .slice B6 n6 d6'], .int .i64 0]) (by simp [results, Try.results34, go_sem, x1]) rfl ⟨A, c, _, rfl, hF.below_, hF.rd 3 rfl, ?_⟩
        have hc : Chg (fun g' => g' = g + 1) w4 ((w4.setCell ⟨g + 1, 0, none⟩ (.slice B5 n5 d5')).setCell ⟨g + 1, 1, none⟩ (.slice B6 n6 d6')) := ((Chg.refl (fun g' => g' = g + 1) w4).setCell (p := ⟨g + 1, 0, none⟩) (.inl rfl) _).setCell (p := ⟨g + 1, 1, none⟩) (.inl rfl) _
        obtain ⟨C5, m5, k5, C6, m6, k6, obs2, he, hO5, hF5, hR6⟩ := HG4.out.ex
        rw [← HFF.out] at hF5
        rw [← HRR.out] at hR6
        rw [← HA.out]
        exact ⟨C5, m5, k5, C6, m6, k6, obs2, he, (hO5.chg hc (fun g' hg hd => by subst hg; omega)).more (fun k _ hk => by omega), hF5, (hR6.chg hc (fun g' hg hd => by subst hg; omega)).more (fun k _ hk => by omega)⟩
end Go.Proofs.Ytjphckfbbiehdaa
