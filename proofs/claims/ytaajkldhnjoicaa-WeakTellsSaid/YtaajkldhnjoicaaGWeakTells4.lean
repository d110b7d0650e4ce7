/- The law WeakTells: the walk. -/
import Derived.Test.YtaajkldhnjoicaaGWeakTells3
import Derived.Test.YtaajkldhnjoicaaGGraphTells1
import Derived.Test.YtaajkldhnjoicaaGGraphCanons2
set_option linter.unusedSimpArgs false
set_option linter.unusedVariables false
namespace Go.Proofs.Ytaajkldhnjoicaa
open Go.RowKit Go.Shelf

theorem wkErr_k (nO nR nK : Nat) (obs : List Ob) (roots : List Val) (ks : List Int) : wkErr nO nR nK obs roots ks = if gcheck nO nR obs roots ≠ 0 then gcheck nO nR obs roots else kErr nO nK ks := rfl
theorem nilRd (w : World) : GraphRd w (fun _ => True) (.agg #[.slice none 0 0, .slice none 0 0]) [] [] := ⟨none, 0, 0, none, 0, 0, [], rfl, ⟨Rd.nil, fun o ho => by cases ho⟩, rfl, Rd.nil⟩
theorem aliveB_congr {p q : Nat → Bool} {n : Nat} (h : ∀ j, j < n → p j = q j) {v : Val} (hv : v.1 = true → 0 ≤ v.2 ∧ v.2 < (n : Int)) : aliveB p v = aliveB q v := by
  unfold aliveB
  cases hb : v.1 with
  | false => rfl
  | true => obtain ⟨h0, h1⟩ := hv hb; rw [h v.2.toNat (by omega)]
theorem clearAll_congr {gs : List (List Val)} {ks : List Int} {p q : Nat → Bool} {n : Nat} (h : ∀ j, j < n → p j = q j) (hv : ∀ x : Int, ValsOk n (fieldsI gs x)) : clearAll gs ks p n = clearAll gs ks q n := by
  unfold clearAll
  refine List.map_congr_left fun i _ => ?_
  unfold clearF
  refine List.map_congr_left fun v hm => ?_
  unfold clearV
  have h1 : headAl p (fieldsI gs (i : Int)) = headAl q (fieldsI gs (i : Int)) := by
    have := hv (i : Int)
    cases hf : fieldsI gs (i : Int) with
    | nil => rfl
    | cons a t => rw [hf] at this; exact aliveB_congr h (this a (by simp))
  rw [aliveB_congr h (hv (i : Int) v hm), h1]

set_option maxRecDepth 100000 in
set_option maxHeartbeats 8000000 in
theorem weakTells_no (w : World) (AO AR AK : Option Addr) (nO cO nR cR nK cK : Nat) (obs : List Ob) (roots : List Val) (ks : List Int) (hO : ObsRd w (fun _ => True) AO nO obs) (hR : Rd w (fun _ => True) 2 AR nR (vals roots)) (hK : Rd w (fun _ => True) 1 AK nK (ints ks)) (hz : wkErr nO nR nK obs roots ks ≠ 0) :
    Calls Try.prog 12 #[.agg #[.slice AO nO cO, .slice AR nR cR], .slice AK nK cK] w fun e w' => e = .returned (.bool true) ∧ Below w.heap.size w w' := by
  have hS0 := (Sep.nil No w).blkAt 25 #[.slice AO nO cO, .slice AR nR cR] rfl
  obtain ⟨a1, a2, a3, a4⟩ := hS0.rules 0 (g := w.heap.size) (t := 25) rfl
  have C1 := hide (fun w' (hb : Below w.heap.size w w') => wkept_bad w' AO AR AK nO cO nR cR nK cK obs roots ks (hO.below hb) (hR.below hb) (hK.below hb) hz)
  have C2 := hide (fun w' (hb : Below w.heap.size w w') => wclear_bad w' AO AR AK nO cO nR cR nK cK obs roots ks (hO.below hb) (hR.below hb) (hK.below hb) hz)
  have C4 := hide (fun w' (hb : Below w.heap.size w w') => refCheck_any w' AO AR nO cO nR cR obs roots (hO.below hb) (hR.below hb))
  have C5 := hide (fun (hg : gcheck nO nR obs roots = 0) w' (hb : Below w.heap.size w w') => refKinds_any w' AO AR AK nO cO nR cR nK cK ks (gok_of hO hg).nO_ (hK.below hb))
  have C6 := hide (fun w' => graphs_any w' (fun _ => True) (fun _ => True) _ _ [] [] (by simp) (by simp) (by simp) (nilRd w') (nilRd w'))
  have HS0 := hide hS0
  rw [wkErr_k] at hz
  simp only [wkErr_k] at C1 C2
  clear hS0 a4 hO hR hK
  by_cases hg : gcheck nO nR obs roots = 0
  · have hng : ¬ (gcheck nO nR obs roots ≠ 0) := fun h => h hg
    rw [if_neg hng] at hz
    simp only [if_neg hng] at C1 C2
    replace C5 := hide (C5.out hg)
    simp only [hg] at C4
    obtain ⟨x, hx⟩ : ∃ x, kErr nO nK ks = x := ⟨_, rfl⟩
    simp only [hx] at C1 C2 C5
    rw [hx] at hz
    have y1 : (x != 0) = true := by rw [bne_iff_ne]; exact hz
    have y2 : (x == 0) = false := by simp [hz]
    clear hz hg hx
    go_enter Try.func12, Try.ntmps12
    go_wp2_with fail
    refine (C1.out _ HS0.out.below_).mono ?_
    rintro e w1 ⟨rfl, hb1⟩
    have hS1 := HS0.out.below hb1
    have C2 := hide (C2.out w1 hS1.below_)
    obtain ⟨b1, b2, b3, b4⟩ := hS1.rules 0 (g := w.heap.size) (t := 25) rfl
    have HS1 := hide hS1
    clear hb1 hS1 HS0 C1 a1 a2 a3 b4
    go_wp2_with fail
    refine C2.out.mono ?_
    rintro e w2 ⟨rfl, hb2⟩
    have hS2 := (HS1.out.below hb2).blkAt 25 #[.slice none 0 0, .slice none 0 0] (g := w2.heap.size) rfl
    have C4 := hide (C4.out _ hS2.below_)
    obtain ⟨a1, a2, a3, a4⟩ := hS2.rules 0 (g := w.heap.size) (t := 25) rfl
    have HS2 := hide hS2
    clear hb2 hS2 HS1 C2 b1 b2 b3 a4
    go_wp2_with fail
    refine C4.out.mono ?_
    rintro e w4 ⟨rfl, hb4⟩
    have hS4 := HS2.out.below hb4
    have C5 := hide (C5.out w4 hS4.below_)
    obtain ⟨b1, b2, b3, b4⟩ := hS4.rules 0 (g := w.heap.size) (t := 25) rfl
    have HS4 := hide hS4
    clear hb4 hS4 HS2 C4 a1 a2 a3 b4
    go_wp2_with fail
    refine C5.out.mono ?_
    rintro e w5 ⟨rfl, hb5⟩
    have hS5 := HS4.out.below hb5
    obtain ⟨d1, d2, d3, d4⟩ := hS5.rules 1 (g := w2.heap.size) (t := 25) rfl
    have HS5 := hide hS5
    clear hb5 hS5 HS4 C5 b1 b2 b3 d4
    go_wp2_with fail
    refine (C6.out w5).mono ?_
    rintro e w6 ⟨rfl, hb6⟩
    have HB6 := hide (HS5.out.below hb6).below_
    clear hb6 HS5
    go_wp2_with fail
    go_ret
    exact ⟨rfl, HB6.out⟩
  · simp only [if_pos hg] at C1 C2
    clear C5
    obtain ⟨x, hx⟩ : ∃ x, gcheck nO nR obs roots = x := ⟨_, rfl⟩
    simp only [hx] at C1 C2 C4
    rw [hx] at hg
    have y1 : (x != 0) = true := by rw [bne_iff_ne]; exact hg
    have y2 : (x == 0) = false := by simp [hg]
    clear hz hg hx
    go_enter Try.func12, Try.ntmps12
    go_wp2_with fail
    refine (C1.out _ HS0.out.below_).mono ?_
    rintro e w1 ⟨rfl, hb1⟩
    have hS1 := HS0.out.below hb1
    have C2 := hide (C2.out w1 hS1.below_)
    obtain ⟨b1, b2, b3, b4⟩ := hS1.rules 0 (g := w.heap.size) (t := 25) rfl
    have HS1 := hide hS1
    clear hb1 hS1 HS0 C1 a1 a2 a3 b4
    go_wp2_with fail
    refine C2.out.mono ?_
    rintro e w2 ⟨rfl, hb2⟩
    have hS2 := (HS1.out.below hb2).blkAt 25 #[.slice none 0 0, .slice none 0 0] (g := w2.heap.size) rfl
    have C4 := hide (C4.out _ hS2.below_)
    obtain ⟨a1, a2, a3, a4⟩ := hS2.rules 0 (g := w.heap.size) (t := 25) rfl
    have HS2 := hide hS2
    clear hb2 hS2 HS1 C2 b1 b2 b3 a4
    go_wp2_with fail
    refine C4.out.mono ?_
    rintro e w4 ⟨rfl, hb4⟩
    have hS5 := HS2.out.below hb4
    obtain ⟨d1, d2, d3, d4⟩ := hS5.rules 1 (g := w2.heap.size) (t := 25) rfl
    have HS5 := hide hS5
    clear hb4 hS5 HS2 C4 a1 a2 a3 d4
    go_wp2_with fail
    refine (C6.out w4).mono ?_
    rintro e w6 ⟨rfl, hb6⟩
    have HB6 := hide (HS5.out.below hb6).below_
    clear hb6 HS5
    go_wp2_with fail
    go_ret
    exact ⟨rfl, HB6.out⟩

set_option maxRecDepth 100000 in
set_option maxHeartbeats 8000000 in
theorem weakTells_ok (w : World) (AO AR AK : Option Addr) (nO cO nR cR cK : Nat) (obs : List Ob) (roots : List Val) (ks : List Int) (hcp : Caps obs) (hO : ObsRd w (fun _ => True) AO nO obs) (hR : Rd w (fun _ => True) 2 AR nR (vals roots)) (hK : Rd w (fun _ => True) 1 AK nO (ints ks)) (hz : wkErr nO nR nO obs roots ks = 0) :
    Calls Try.prog 12 #[.agg #[.slice AO nO cO, .slice AR nR cR], .slice AK nO cK] w fun e w' => e = .returned (.bool true) ∧ Below w.heap.size w w' := by
  have hz1 := (wkErr_zero hz).1
  have hG := gok_of hO hz1
  have hn := hG.nO_
  obtain ⟨gs, h3⟩ : ∃ gs, obs.map Ob.fields = gs := ⟨_, rfl⟩
  have hv : ∀ x : Int, ValsOk nO (fieldsI gs x) := fun x => by have := fieldsI_ok (x := x) hG.vg; rw [hG.len, h3] at this; exact this
  have hvr : ValsOk nO roots := by have := hG.vr; rw [hG.len] at this; exact this
  have hS0 := (Sep.nil No w).blkAt 25 #[.slice AO nO cO, .slice AR nR cR] rfl
  obtain ⟨a1, a2, a3, a4⟩ := hS0.rules 0 (g := w.heap.size) (t := 25) rfl
  have C1 := hide (wkept_ok _ AO AR AK nO cO nR cR cK obs roots ks gs h3 hcp (hO.below hS0.below_) (hR.below hS0.below_) (hK.below hS0.below_) hz)
  have C2 := hide (fun (w' : World) (hb : Below w.heap.size w w') => wclear_ok w' AO AR AK nO cO nR cR cK obs roots ks gs h3 hcp (hO.below hb) (hR.below hb) (hK.below hb) hz)
  have C4 := hide (fun w' (hb : Below w.heap.size w w') => refCheck_any w' AO AR nO cO nR cR obs roots (hO.below hb) (hR.below hb))
  have C5 := hide (fun w' (hb : Below w.heap.size w w') => refKinds_any w' AO AR AK nO cO nR cR nO cK ks hn (hK.below hb))
  have hke : kErr nO nO ks = 0 := by have h := wkErr_k nO nR nO obs roots ks; rw [hz, if_neg (fun h => h hz1)] at h; exact h.symm
  simp only [hz1] at C4
  simp only [hke] at C5
  have C6 := hide (fun (w' : World) (hb : Below w.heap.size w w') => refKept_any w' AO AR AK nO cO nR cR cK obs roots ks gs h3 (hO.below hb) (hR.below hb) (hK.below hb) hG)
  have C9 := hide (fun (w' : World) (hb : Below w.heap.size w w') => refClear_any w' AO AR AK nO cO nR cR cK obs roots ks gs h3 (hO.below hb) (hR.below hb) (hK.below hb) hG)
  have HV := hide hv
  have HVR := hide hvr
  have HF4 := hide (show ∀ x : Int, (fieldsI gs x).length ≤ 4 from fun x => by rw [← h3]; exact fields_le hG.fs x)
  have HRL := hide (show roots.length ≤ 8 by have := roots_len hR; have := hG.nR_; omega)
  have HS0 := hide hS0
  clear hS0 a4 hO hR hK hz hz1 hke hG hv hvr h3 hcp
  go_enter Try.func12, Try.ntmps12
  go_wp2_with fail
  refine C1.out.mono ?_
  rintro e w1 ⟨A1, m1, c1, p, rfl, hm1, hp, hP1⟩
  have hS1 := sepNewR HS0.out hP1
  have HP := hide hp
  have C2 := hide (C2.out w1 hS1.below_)
  obtain ⟨b1, b2, b3, b4⟩ := hS1.rules 0 (g := w.heap.size) (t := 25) rfl
  have HS1 := hide hS1
  clear hP1 hS1 HS0 C1 a1 a2 a3 b4 hp
  go_wp2_with fail
  refine C2.out.mono ?_
  rintro e w2 ⟨v', p2, rfl, hp2, hb2, hg2⟩
  obtain ⟨B1, n1, d1, B2, n2, d2, obs2, rfl, hO2, hF2, hR2⟩ := hg2.ex
  have hcc := clearAll_congr (gs := gs) (ks := ks) (p := p2) (q := p) (hp2.same HP.out HV.out HVR.out) HV.out
  have hfc : filt p2 nO = filt p nO := filt_congr (hp2.same HP.out HV.out HVR.out)
  rw [hcc, hfc] at hg2
  have hS2 := (HS1.out.below hb2).blkAt 25 #[.slice B1 n1 d1, .slice B2 n2 d2] (g := w2.heap.size) rfl
  have hG3 := hg2.below (w' := w2.alloc (.cells #[.slice B1 n1 d1, .slice B2 n2 d2] 25)) ((Below.refl _ w2).alloc (Nat.le_refl _) _)
  have HG3 := hide hG3
  have C4 := hide (C4.out _ hS2.below_)
  obtain ⟨a1, a2, a3, a4⟩ := (HS1.out.below hb2).rules 0 (g := w.heap.size) (t := 25) rfl
  have HS2 := hide hS2
  clear hb2 hS2 HS1 C2 b1 b2 b3 a4 hO2 hF2 hR2 hg2 hp2 hcc hfc hG3
  go_wp2_with fail
  refine C4.out.mono ?_
  rintro e w4 ⟨rfl, hb4⟩
  have hS4 := HS2.out.below hb4
  have HG4 := hide (HG3.out.below hb4)
  have C5 := hide (C5.out w4 hS4.below_)
  obtain ⟨b1, b2, b3, b4⟩ := hS4.rules 0 (g := w.heap.size) (t := 25) rfl
  have HS4 := hide hS4
  clear hb4 hS4 HS2 C4 a1 a2 a3 b4 HG3
  go_wp2_with fail
  refine C5.out.mono ?_
  rintro e w5 ⟨rfl, hb5⟩
  have hS5 := HS4.out.below hb5
  have HG5 := hide ((HG4.out.below hb5).below (w' := w5.drew) (Below.refl _ _).drew)
  have HCELL := hide (fun (X : World) (h : Sep No w X [blkI w.heap.size 25 #[.slice AO nO cO, .slice AR nR cR], rowI 3 1 A1 m1 c1 (ints (filt p nO)), blkI w2.heap.size 25 #[.slice B1 n1 d1, .slice B2 n2 d2]]) =>
    (⟨((h.rules 0 (g := w.heap.size) (t := 25) rfl).1 0).trans rfl, ((h.rules 0 (g := w.heap.size) (t := 25) rfl).1 1).trans rfl, ((h.rules 2 (g := w2.heap.size) (t := 25) rfl).1 0).trans rfl, ((h.rules 2 (g := w2.heap.size) (t := 25) rfl).1 1).trans rfl⟩ :
      X.cell? ⟨w.heap.size, 0, none⟩ = some (.slice AO nO cO) ∧ X.cell? ⟨w.heap.size, 1, none⟩ = some (.slice AR nR cR) ∧ X.cell? ⟨w2.heap.size, 0, none⟩ = some (.slice B1 n1 d1) ∧ X.cell? ⟨w2.heap.size, 1, none⟩ = some (.slice B2 n2 d2)))
  obtain ⟨x1, x2, x3, x4⟩ := HCELL.out w5 hS5
  have C7 := hide (C6.out w5.drew hS5.drew.below_)
  have C8 := hide (fun (X : World) (A : Option Addr) (c : Nat) (b : List Bool) (hT : Rd X (fun _ => True) 1 A nO (bls b)) => refList_any X A nO c b hT hn)
  have HLEN := hide (show (filt p nO).length = m1 from by have := (hS5.rd_ 1 rfl).1; simpa using this)
  have HS5 := hide hS5
  clear hb5 hS5 HS4 C5 b1 b2 b3 HG4 C6
  obtain ⟨FF, hFF⟩ : ∃ F, renumF (clearAll gs ks p nO) (filt p nO) = F := ⟨_, rfl⟩
  obtain ⟨RR, hRR⟩ : ∃ F, roots.map (turnL (filt p nO)) = F := ⟨_, rfl⟩
  have C10 := hide (fun (X : World) (D : Nat → Prop) (v v2 : Value) (h1 : GraphRd X D v FF RR) (h2 : GraphRd X (fun g => True) v2 FF RR) => graphs_any X D (fun _ => True) v v2 FF RR (fun fs hfs => by
      rw [← hFF] at hfs
      unfold renumF at hfs
      obtain ⟨x, _, rfl⟩ := List.mem_map.1 hfs
      rw [List.length_map]
      have : (fieldsI (clearAll gs ks p nO) x).length ≤ 4 := fields_le (clearAll_4 HF4.out) x
      omega) (by rw [← hFF]; unfold renumF; rw [List.length_map, HLEN.out]; omega) (by rw [← hRR, List.length_map]; have := HRL.out; omega) h1 h2)
  rw [hFF, hRR] at HG5
  have HFF := hide hFF
  have HRR := hide hRR
  clear hFF hRR
  go_wp2_with fail
  go_region_held3 (fun w' => w'.cell? ⟨w.heap.size, 0, none⟩ = some (.slice AO nO cO) ∧ w'.cell? ⟨w.heap.size, 1, none⟩ = some (.slice AR nR cR) ∧ w'.cell? ⟨w2.heap.size, 0, none⟩ = some (.slice B1 n1 d1) ∧ w'.cell? ⟨w2.heap.size, 1, none⟩ = some (.slice B2 n2 d2)) (go_keep)
    (first
      | (go_at_call 51; (with_reducible refine C7.out.mono ?_); rintro e u1 ⟨A5, c5, b, rfl, hk, hbl, hP⟩; have hT1 := HS5.out.drew.below hP.below_; obtain ⟨k1, k2, k3, k4⟩ := HCELL.out _ hT1; have HGA := hide (HG5.out.below hP.below_); have CL := hide (C8.out u1 A5 c5 b (hP.rd_ 0 rfl)); have HT1 := hide hT1; have heq := filt_congr (HP.out.same hk HV.out HVR.out); have HEQ := hide heq; clear hT1 hP hk hbl heq)
      | (go_at_call 50; (with_reducible refine CL.out.mono ?_); rintro e u2 ⟨A6, m6, c6, rfl, hm6, hP⟩; have hT2 := HT1.out.below hP.below_; obtain ⟨k5, k6, k7, k8⟩ := HCELL.out _ hT2; have HGB := hide (HGA.out.below hP.below_); have hr := hP.rd_ 0 rfl; rw [← HEQ.out] at hr; have h7 : (filt p nO).length = m6 := (by (have h9 := hr.1; simpa using h9)); obtain rfl : m6 = m1 := (h7.symm.trans HLEN.out); have CI := hide (ints_same u2 _ _ A1 A6 m6 c1 c6 _ (by omega) (hT2.rd_ 1 rfl) hr); have HT2 := hide hT2; clear hT2 hP hr)
      | (go_at_call 23; (with_reducible refine CI.out.mono ?_); rintro e u3 ⟨rfl, hb⟩; have hT3 := HT2.out.below hb; obtain ⟨k9, k10, k11, k12⟩ := HCELL.out _ hT3; have HGC := hide (HGB.out.below hb); have CC := hide (C9.out u3 hT3.below_); have HT3 := hide hT3; clear hT3 hb)
      | (go_at_call 52; (with_reducible refine CC.out.mono ?_); rintro e u4 ⟨v4, q, rfl, hq, hb, hg⟩; have hT4 := HT3.out.below hb; obtain ⟨k13, k14, k15, k16⟩ := HCELL.out _ hT4; have HGD := hide (HGC.out.below hb); have hcq := clearAll_congr (gs := gs) (ks := ks) (p := q) (q := p) (hq.same HP.out HV.out HVR.out) HV.out; have hfq := filt_congr (hq.same HP.out HV.out HVR.out); rw [hcq, hfq, HFF.out, HRR.out] at hg; have CG := hide (C10.out u4 _ _ v4 HGD.out (hg.more (fun _ _ _ => trivial))); have HT4 := hide hT4; clear hT4 hb hg hq hcq hfq)
      | (go_at_call 31; (with_reducible refine CG.out.mono ?_); rintro e u5 ⟨rfl, hb⟩; have hT5 := HT4.out.below hb; obtain ⟨k17, k18, k19, k20⟩ := HCELL.out _ hT5; have HB5 := hide hT5.below_; clear hT5 hb))
  all_goals
    go_wp2_with fail
    go_ret
    exact ⟨rfl, HB5.out⟩
theorem weakTells_walk (w : World) (AO AR AK : Option Addr) (nO cO nR cR nK cK : Nat) (obs : List Ob) (roots : List Val) (ks : List Int) (hcp : Caps obs) (hO : ObsRd w (fun _ => True) AO nO obs) (hR : Rd w (fun _ => True) 2 AR nR (vals roots)) (hK : Rd w (fun _ => True) 1 AK nK (ints ks)) :
    Calls Try.prog 12 #[.agg #[.slice AO nO cO, .slice AR nR cR], .slice AK nK cK] w fun e w' => e = .returned (.bool true) ∧ Below w.heap.size w w' := by
  by_cases hz : wkErr nO nR nK obs roots ks = 0
  · obtain ⟨_, rfl, _⟩ := wkErr_zero hz
    exact weakTells_ok w AO AR AK nK cO nR cR cK obs roots ks hcp hO hR hK hz
  · exact weakTells_no w AO AR AK nO cO nR cR nK cK obs roots ks hO hR hK hz
end Go.Proofs.Ytaajkldhnjoicaa
