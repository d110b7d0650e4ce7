/- Trials: the program's Trial. Trials: the reference's. The law TrialTells: the walk. -/
import Derived.Deep.RegionHeld3
import Derived.Deep.DeepCutAuto
import Derived.Deep.OwnRows
import Derived.Test.YtaajkldhnjoicaaGTrialTells1
set_option linter.unusedSimpArgs false
set_option linter.unusedVariables false
namespace Go.Proofs.Ytaajkldhnjoicaa
open Go.RowKit Go.Shelf

/-- A made block is a row. -/
theorem rowI_of_blk {w : World} {g t size n : Nat} {cs : Array Value} (h : Blk w g t cs) (hs : cs.size = n * size) (hm : n ≤ maxLen) : (rowI t size (some ⟨g, 0, none⟩) n n cs.toList).P w :=
  ⟨by rw [Array.length_toList, hs], .inr ⟨g, n, cs, rfl, Nat.zero_le _, h, Nat.le_refl _, hm, hs, by rw [List.take_of_length_le (by rw [Array.length_toList]; omega)]⟩⟩
theorem int_make (n : Nat) (hn : n ≤ 1000) : ∃ M : Array Value, M.toList = ints (List.replicate n 0) ∧ ∀ w : World, (Instr.makeSlice 35 (.int .i64 (n : Int)) (.int .i64 (n : Int))).run Try.prog w = .ok (.slice (some ⟨w.heap.size, 0, none⟩) n n) (w.alloc (.cells M 3)) := by
  refine ⟨madeCells #[.int .i64 0] n, ?_, fun w => Go.run_make_row' 35 3 (.int .i64 0) 8 Try.underlying35 fInt rfl .i64 .i64 n (by omega) (by omega) w⟩
  have := dMadeInts n
  simpa [Value.cells] using this

/-- What the trial has of its own. -/
structure TrNew (W w : World) (gh gl Bt Bv : Nat) (M : Array Value) (C : Array Value) : Prop where
  h : Blk w gh 3 M
  l : Blk w gl 3 M
  t : Blk w Bt 97 C
  v : Blk w Bv 95 #[.pointer (some ⟨Bt, 0, none⟩)]
  ne : gh ≠ gl ∧ gh ≠ Bt ∧ gh ≠ Bv ∧ gl ≠ Bt ∧ gl ≠ Bv ∧ Bt ≠ Bv
  new : W.heap.size ≤ gh ∧ W.heap.size ≤ gl ∧ W.heap.size ≤ Bt ∧ W.heap.size ≤ Bv
  bel : Below W.heap.size W w

theorem TrNew.sep {W w1 w : World} {gh gl Bt Bv n : Nat} {M C : Array Value} {i : Item} (h : TrNew w1 w gh gl Bt Bv M C) (hS : Sep No W w1 [i]) (hM : M.toList = ints (List.replicate n 0)) (hn : n ≤ 1000) :
    Sep No W w [keIt gh n (List.replicate n 0), keIt gl n (List.replicate n 0), i, blkI Bt 97 C, blkI Bv 95 #[.pointer (some ⟨Bt, 0, none⟩)]] := by
  obtain ⟨n1, n2, n3, n4⟩ := h.new
  obtain ⟨e1, e2, e3, e4, e5, e6⟩ := h.ne
  have hW := hS.bel.size
  have hi : ∀ g, i.fp g → g < w1.heap.size := fun g hg => i.dom w1 (hS.all i (by simp)) g hg
  have hMs : M.size = n * 1 := by have := congrArg List.length hM; simp at this; omega
  have r1 := rowI_of_blk h.h hMs (by unfold maxLen; omega)
  have r2 := rowI_of_blk h.l hMs (by unfold maxLen; omega)
  rw [hM] at r1 r2
  have S1 := hS.below h.bel
  have S2 := S1.snoc (blkI Bt 97 C) h.t (fun g hg => by rw [show g = Bt from hg]; exact .inr (by omega)) (fun j hj g hg hg' => by
    rw [show g = Bt from hg] at hg'
    obtain rfl : j = i := by simpa using hj
    have := hi _ hg'; omega)
  have S3 := S2.snoc (blkI Bv 95 #[.pointer (some ⟨Bt, 0, none⟩)]) h.v (fun g hg => by rw [show g = Bv from hg]; exact .inr (by omega)) (fun j hj g hg hg' => by
    rw [show g = Bv from hg] at hg'
    simp only [List.cons_append, List.nil_append, List.mem_cons, List.not_mem_nil, or_false] at hj
    rcases hj with rfl | rfl
    · have := hi _ hg'; omega
    · exact e6 (show Bv = Bt from hg').symm)
  have S4 := S3.cons (keIt gl n (List.replicate n 0)) r2 (fun g hg => by rw [keIt_fp.1 hg]; exact .inr (by omega)) (fun j hj g hg hg' => by
    rw [keIt_fp.1 hg] at hg'
    simp only [List.cons_append, List.nil_append, List.mem_cons, List.not_mem_nil, or_false] at hj
    rcases hj with rfl | rfl | rfl
    · have := hi _ hg'; omega
    · exact e4 hg'
    · exact e5 hg')
  exact S4.cons (keIt gh n (List.replicate n 0)) r1 (fun g hg => by rw [keIt_fp.1 hg]; exact .inr (by omega)) (fun j hj g hg hg' => by
    rw [keIt_fp.1 hg] at hg'
    simp only [List.cons_append, List.nil_append, List.mem_cons, List.not_mem_nil, or_false] at hj
    rcases hj with rfl | rfl | rfl | rfl
    · exact e1 (keIt_fp.1 hg')
    · have := hi _ hg'; omega
    · exact e2 hg'
    · exact e3 hg')
theorem trM_of {w w' : World} {gh gl Bt n : Nat} {h l : List Int} {AO AR : Option Addr} {nO cO nR cR : Nat} {obs : List Ob} {g0 : Item} {items : List Item} (hS : Sep No w w' (keIt gh n h :: keIt gl n l :: g0 :: blkI Bt 97 (tCells gh gl AO AR nO cO nR cR) :: items)) (hO : ObsRd w (fun _ => True) AO nO obs) : TrM Bt gh gl AO AR nO cO nR cR obs w' := by
  have h1 := fun g hg => (hS.lo 0 rfl g hg).resolve_left (fun h => h)
  have h2 := fun g hg => (hS.lo 1 rfl g hg).resolve_left (fun h => h)
  have h3 := h1 gh (keIt_fp.2 rfl)
  have h4 := h2 gl (keIt_fp.2 rfl)
  refine ⟨((hO.more (D' := fun k => k < w.heap.size) (fun k hk _ => hk)).below hS.below_).more (fun k _ hk => ⟨by omega, by omega⟩), hS.get 3 rfl, fun e => ?_, fun e => ?_⟩
  · exact hS.other (a := 0) (b := 3) rfl rfl (by omega) gh (keIt_fp.2 rfl) e.symm
  · exact hS.other (a := 1) (b := 3) rfl rfl (by omega) gl (keIt_fp.2 rfl) e.symm
theorem four_new (W : World) (o0 o1 o2 o3 : Obj) : ((((W.alloc o0).alloc o1).alloc o2).alloc o3).drew.heap[W.heap.size]? = some o0 ∧ ((((W.alloc o0).alloc o1).alloc o2).alloc o3).drew.heap[W.heap.size + 1]? = some o1 ∧
    ((((W.alloc o0).alloc o1).alloc o2).alloc o3).drew.heap[W.heap.size + 1 + 1]? = some o2 ∧ ((((W.alloc o0).alloc o1).alloc o2).alloc o3).drew.heap[W.heap.size + 1 + 1 + 1]? = some o3 ∧ Below W.heap.size W ((((W.alloc o0).alloc o1).alloc o2).alloc o3).drew := by
  have h1 : (W.alloc o0).heap.size = W.heap.size + 1 := by simp
  have h2 : ((W.alloc o0).alloc o1).heap.size = W.heap.size + 1 + 1 := by simp
  have h3 : (((W.alloc o0).alloc o1).alloc o2).heap.size = W.heap.size + 1 + 1 + 1 := by simp
  have a0 := heap_alloc_new W o0
  have a1 := heap_alloc_new (W.alloc o0) o1
  have a2 := heap_alloc_new ((W.alloc o0).alloc o1) o2
  have a3 := heap_alloc_new (((W.alloc o0).alloc o1).alloc o2) o3
  rw [h1] at a1
  rw [h2] at a2
  rw [h3] at a3
  refine ⟨?_, ?_, ?_, a3, ((((Below.refl _ W).alloc (Nat.le_refl _) _).alloc (by simp) _).alloc (by simp; omega) _).alloc (by simp; omega) _ |>.drew⟩
  · exact (Below.heap_alloc _ o3 _ (by omega)).trans ((Below.heap_alloc _ o2 _ (by omega)).trans ((Below.heap_alloc _ o1 _ (by omega)).trans a0))
  · exact (Below.heap_alloc _ o3 _ (by omega)).trans ((Below.heap_alloc _ o2 _ (by omega)).trans a1)
  · exact (Below.heap_alloc _ o3 _ (by omega)).trans a2

set_option maxRecDepth 100000 in
set_option maxHeartbeats 8000000 in
theorem trial_ok (w : World) (AO AR AF : Option Addr) (nO cO nR cR nF cF : Nat) (obs : List Ob) (roots : List Val) (from_ : List Int) (hO : ObsRd w (fun _ => True) AO nO obs) (hR : Rd w (fun _ => True) 2 AR nR (vals roots)) (hF : Rd w (fun _ => True) 1 AF nF (ints from_)) (hz : gcheck nO nR obs roots = 0) (hnF : nF ≤ 24) (hfr : ∀ x ∈ from_, 0 ≤ x ∧ x < (nO : Int)) :
    Calls Try.prog 24 #[.agg #[.slice AO nO cO, .slice AR nR cR], .slice AF nF cF] w fun e w' => ∃ A n c h, e = .returned (.tuple #[.slice A n c, .int .i64 0]) ∧ (∀ x : Nat, x < nO → (h.getD x 0 = 1 ↔ TrIn (obs.map Ob.fields) nO from_ x ∧ ¬ TrHeld (obs.map Ob.fields) roots nO from_ x)) ∧ Sep No w w' [rowI 3 1 A n c (ints (ones 1 h nO))] := by
  have hG := gok_of hO hz
  have hn := hG.nO_
  have hS0 := (Sep.nil No w).blkAt 25 #[.slice AO nO cO, .slice AR nR cR] rfl
  obtain ⟨a1, a2, a3, a4⟩ := hS0.rules 0 (g := w.heap.size) (t := 25) rfl
  have a5 := a1 0
  have a6 := a1 1
  have HS0 := hide hS0
  have C1 := hide (graphCheck_any _ AO AR nO cO nR cR obs roots (hO.below hS0.below_) (hR.below hS0.below_))
  rw [hz] at C1
  have hfl : from_.length = nF := by have := hF.1; simpa using this
  obtain ⟨gs, hgs⟩ : ∃ gs, obs.map Ob.fields = gs := ⟨_, rfl⟩
  have HGS := hide hgs
  rw [hgs]
  have HFR := hide hfr
  have HFL := hide hfl
  have HG := hide hG
  obtain ⟨M, hM, hmk⟩ := int_make nO (by omega)
  have HMM := hide hM
  clear hS0 hz a1 a4 hG hfl hM hfr hgs
  go_enter Try.func24, Try.ntmps24
  go_wp2_with fail
  refine C1.out.mono ?_
  rintro e w1 ⟨rfl, hb1⟩
  have hS1 := HS0.out.below hb1
  obtain ⟨b1, b2, b3, b4⟩ := hS1.rules 0 (g := w.heap.size) (t := 25) rfl
  have b5 := b1 0
  have b6 := b1 1
  have HS1 := hide hS1
  have HFD := hide (hF.below hS1.below_)
  clear hb1 hS1 HS0 C1 a2 a3 a5 a6 b1 b4
  go_wp2_with fail
  go_loop [30] (fun s => ∃ k : Nat, k ≤ nF ∧ s = .int .i64 k) (fun s => nF - (intOf s).toNat)
  case atStart => exact ⟨0, by omega, rfl⟩
  case round =>
    obtain ⟨k, hk, rfl⟩ := hrel
    by_cases hlt : k < nF
    · have hkl : k < from_.length := by rw [HFL.out]; exact hlt
      obtain ⟨ad, hA, _, had, hc⟩ := HFD.out.at_ hlt
      have e0 := hc _ (ints_get' from_ k hkl)
      obtain ⟨r0, r1⟩ := HFR.out _ (List.getElem_mem hkl)
      obtain ⟨z, hz⟩ := int_nat r0
      rw [hz] at e0 r1
      have hz2 : z < nO := by omega
      have t1 : decide ((z : Int) < 0) = false := by simp
      have t2 : decide ((nO : Int) ≤ (z : Int)) = false := by simp; omega
      have t3 : decide (nO ≤ z) = false := by simp; omega
      subst hA
      clear hz hc r0
      go_wp2_with fail
      go_round
      case rel => exact ⟨k + 1, by omega, by go_num⟩
      case measure => simp [intOf]; omega
    · obtain rfl : k = nF := by omega
      go_upto_region 12 with (fail)
      go_cut [9] from 44 to 54 (fun s9 wx => ∃ gh gl Bt Bv : Nat, s9 = .pointer (some ⟨Bv, 0, none⟩) ∧ TrNew w1 wx gh gl Bt Bv M (tCells gh gl AO AR nO cO nR cR))
      case first =>
        have q0 : w.heap.size ≠ w1.heap.size := by omega
        have q1 : w.heap.size ≠ w1.heap.size + 1 := by omega
        have q2 : w.heap.size ≠ w1.heap.size + 1 + 1 := by omega
        have q3 : w.heap.size ≠ w1.heap.size + 1 + 1 + 1 := by omega
        go_region_held3 (fun w' => w'.cell? ⟨w.heap.size, 0, none⟩ = some (.slice AO nO cO) ∧ w'.cell? ⟨w.heap.size, 1, none⟩ = some (.slice AR nR cR)) (simp (config := { maxDischargeDepth := 8 }) [*, World.cell?_alloc_some, World.cell?_setCell_far]) (fail)
        all_goals
          go_wp2_with fail
          go_meet
          case rel =>
            first
              | exact ⟨w1.heap.size, w1.heap.size + 1, w1.heap.size + 1 + 1, w1.heap.size + 1 + 1 + 1, by with_reducible rfl, ⟨(four_new w1 _ _ _ _).1, (four_new w1 _ _ _ _).2.1, (four_new w1 _ _ _ _).2.2.1, (four_new w1 _ _ _ _).2.2.2.1, ⟨by omega, by omega, by omega, by omega, by omega, by omega⟩, ⟨by omega, by omega, by omega, by omega⟩, (four_new w1 _ _ _ _).2.2.2.2⟩⟩
              | exact ⟨w1.heap.size, w1.heap.size + 1, w1.heap.size + 1 + 1 + 1, w1.heap.size + 1 + 1, by with_reducible rfl, ⟨(four_new w1 _ _ _ _).1, (four_new w1 _ _ _ _).2.1, (four_new w1 _ _ _ _).2.2.2.1, (four_new w1 _ _ _ _).2.2.1, ⟨by omega, by omega, by omega, by omega, by omega, by omega⟩, ⟨by omega, by omega, by omega, by omega⟩, (four_new w1 _ _ _ _).2.2.2.2⟩⟩
              | exact ⟨w1.heap.size, w1.heap.size + 1 + 1, w1.heap.size + 1 + 1 + 1, w1.heap.size + 1, by with_reducible rfl, ⟨(four_new w1 _ _ _ _).1, (four_new w1 _ _ _ _).2.2.1, (four_new w1 _ _ _ _).2.2.2.1, (four_new w1 _ _ _ _).2.1, ⟨by omega, by omega, by omega, by omega, by omega, by omega⟩, ⟨by omega, by omega, by omega, by omega⟩, (four_new w1 _ _ _ _).2.2.2.2⟩⟩
              | exact ⟨w1.heap.size + 1, w1.heap.size + 1 + 1, w1.heap.size + 1 + 1 + 1, w1.heap.size, by with_reducible rfl, ⟨(four_new w1 _ _ _ _).2.1, (four_new w1 _ _ _ _).2.2.1, (four_new w1 _ _ _ _).2.2.2.1, (four_new w1 _ _ _ _).1, ⟨by omega, by omega, by omega, by omega, by omega, by omega⟩, ⟨by omega, by omega, by omega, by omega⟩, (four_new w1 _ _ _ _).2.2.2.2⟩⟩
              | exact ⟨w1.heap.size + 1, w1.heap.size, w1.heap.size + 1 + 1, w1.heap.size + 1 + 1 + 1, by with_reducible rfl, ⟨(four_new w1 _ _ _ _).2.1, (four_new w1 _ _ _ _).1, (four_new w1 _ _ _ _).2.2.1, (four_new w1 _ _ _ _).2.2.2.1, ⟨by omega, by omega, by omega, by omega, by omega, by omega⟩, ⟨by omega, by omega, by omega, by omega⟩, (four_new w1 _ _ _ _).2.2.2.2⟩⟩
              | exact ⟨w1.heap.size + 1, w1.heap.size, w1.heap.size + 1 + 1 + 1, w1.heap.size + 1 + 1, by with_reducible rfl, ⟨(four_new w1 _ _ _ _).2.1, (four_new w1 _ _ _ _).1, (four_new w1 _ _ _ _).2.2.2.1, (four_new w1 _ _ _ _).2.2.1, ⟨by omega, by omega, by omega, by omega, by omega, by omega⟩, ⟨by omega, by omega, by omega, by omega⟩, (four_new w1 _ _ _ _).2.2.2.2⟩⟩
              | exact ⟨w1.heap.size + 1 + 1, w1.heap.size, w1.heap.size + 1 + 1 + 1, w1.heap.size + 1, by with_reducible rfl, ⟨(four_new w1 _ _ _ _).2.2.1, (four_new w1 _ _ _ _).1, (four_new w1 _ _ _ _).2.2.2.1, (four_new w1 _ _ _ _).2.1, ⟨by omega, by omega, by omega, by omega, by omega, by omega⟩, ⟨by omega, by omega, by omega, by omega⟩, (four_new w1 _ _ _ _).2.2.2.2⟩⟩
              | exact ⟨w1.heap.size + 1 + 1, w1.heap.size + 1, w1.heap.size + 1 + 1 + 1, w1.heap.size, by with_reducible rfl, ⟨(four_new w1 _ _ _ _).2.2.1, (four_new w1 _ _ _ _).2.1, (four_new w1 _ _ _ _).2.2.2.1, (four_new w1 _ _ _ _).1, ⟨by omega, by omega, by omega, by omega, by omega, by omega⟩, ⟨by omega, by omega, by omega, by omega⟩, (four_new w1 _ _ _ _).2.2.2.2⟩⟩
      case rest =>
        obtain ⟨gh, gl, Bt, Bv, rfl, hN⟩ := hcut
        have hS2 := hN.sep HS1.out HMM.out (by omega)
        have hv : ∀ x : Int, ValsOk nO (fieldsI gs x) := fun x => by have := fieldsI_ok (x := x) HG.out.vg; rw [HG.out.len, HGS.out] at this; exact this
        have hf4 : ∀ x : Int, (fieldsI gs x).length ≤ 4 := fun x => by rw [← HGS.out]; exact fields_le HG.out.fs x
        have hvr : ValsOk nO roots := by have := HG.out.vr; rw [HG.out.len] at this; exact this
        have HV := hide hv
        have HF4 := hide hf4
        have HVR := hide hvr
        have HN2 := hide hN.ne
        have hRR : Rd w (fun k => k < w.heap.size) 2 AR nR (vals roots) := hR.more (fun k hk _ => hk)
        have HRR := hide hRR
        have HOO := hide hO
        obtain ⟨g1, g2, g3, g4⟩ := hS2.rules 2 (g := w.heap.size) (t := 25) rfl
        have g5 := g1 0
        have g6 := g1 1
        have gln := fun (X : World) (Y : List Item) (l : List Int) (hS : Sep No w X (keIt gh nO (List.replicate nO 0) :: keIt gl nO l :: Y)) => (hS.lo 1 rfl gl (keIt_fp.2 rfl)).resolve_left (fun h => h)
        have HGLN := hide gln
        have C2 := hide (count_any wc Bv Bt gh gl AO AR AR nO cO nR cR nR cR obs roots (List.replicate nO 0) (trM_of hS2 hO) (hS2.get 4 rfl) (Ne.symm hN.ne.2.2.2.2.1) (hS2.get 1 rfl) (by simp) (by have := HG.out.nR_; omega) hvr ((hRR.below hS2.below_).more (fun k _ hk => by have := gln _ _ _ hS2; omega)) (fun j _ => by rw [zeros_get]; omega))
        have HS2 := hide hS2
        clear hS2 hN HS1 b2 b3 b5 b6 hmk g1 g4 hv hf4 hvr hRR gln HFD
        go_wp2_with fail
        refine C2.out.mono ?_
        rintro e w2 ⟨l0, ⟨v0, rfl⟩, hl0, hP2⟩
        have hS3 := HS2.out.call 1 rfl hP2
        have HC0 := hide (show CntI gs roots nO 0 l0 from by rw [hl0]; exact CntI.start HVR.out)
        obtain ⟨g1, g2, g3, g4⟩ := hS3.rules 2 (g := w.heap.size) (t := 25) rfl
        have g5 := g1 0
        have HS3 := hide (show Sep No w w2 [keIt gh nO (List.replicate nO 0), keIt gl nO l0, blkI w.heap.size 25 #[.slice AO nO cO, .slice AR nR cR], blkI Bt 97 (tCells gh gl AO AR nO cO nR cR), blkI Bv 95 #[.pointer (some ⟨Bt, 0, none⟩)]] from hS3)
        clear hS3 hl0 hP2 C2 HS2 g1 g4 g6
        go_wp2_with fail
        go_loopw [63] (fun s wr => ∃ (k : Nat) (l : List Int), k ≤ nO ∧ s = .int .i64 k ∧ Hid (CntI gs roots nO k l) ∧ Sep No w wr [keIt gh nO (List.replicate nO 0), keIt gl nO l, blkI w.heap.size 25 #[.slice AO nO cO, .slice AR nR cR], blkI Bt 97 (tCells gh gl AO AR nO cO nR cR), blkI Bv 95 #[.pointer (some ⟨Bt, 0, none⟩)]]) (fun s _ => nO - (intOf s).toNat)
        case atStart => exact ⟨0, l0, by omega, rfl, HC0, HS3.out⟩
        case round =>
          clear HS3 HC0 g2 g3 g5
          obtain ⟨q, l, hq, rfl, HC, hS⟩ := hrel
          by_cases hlq : q < nO
          · obtain ⟨ad, o, hAO, _, had, e0, hrd, hfi, ho4, hofl⟩ := ob_at ((HOO.out.more (D' := fun k => k < w.heap.size) (fun k hk _ => hk)).below hS.below_) HGS.out (fun o ho => HG.out.fl o ho) hlq
            have hS1 := hS.blkAt 83 #[.slice o.A o.n o.c] (g := wr.heap.size) rfl
            have hvo : ValsOk nO o.fields := by rw [← hfi]; exact HV.out _
            have C := hide (count_any _ Bv Bt gh gl AO AR o.A nO cO nR cR o.n o.c obs o.fields l (trM_of hS1 HOO.out) (hS1.get 4 rfl) (Ne.symm HN2.out.2.2.2.2.1) (hS1.get 1 rfl) HC.out.len (by omega) hvo ((hrd.below ((Below.refl _ _).alloc (Nat.le_refl _) _)).more (fun k _ hk => by have := HGLN.out _ _ _ hS; omega)) (HC.out.bnd hq hn (by rw [roots_len HRR.out]; exact HG.out.nR_) HF4.out))
            have HST := hide (HC.out.step (HV.out (q : Int)))
            rw [hfi] at HST
            have HS1 := hide hS1
            clear hS hS1 hrd hvo hofl hfi HC
            subst hAO
            go_wp2_with fail
            refine C.out.mono ?_
            rintro e w4 ⟨l4, ⟨v4, rfl⟩, hl4, hP4⟩
            have HS4 := hide ((HS1.out.call 1 rfl hP4).sub (l := [keIt gh nO (List.replicate nO 0), keIt gl nO l4, blkI w.heap.size 25 #[.slice (some ad) nO cO, .slice AR nR cR], blkI Bt 97 (tCells gh gl (some ad) AR nO cO nR cR), blkI Bv 95 #[.pointer (some ⟨Bt, 0, none⟩)]]) (by simp))
            rw [← hl4] at HST
            clear hl4 hP4 HS1 C e0 had
            go_wp2_with fail
            go_roundw
            case rel => exact ⟨q + 1, l4, by omega, by go_num, HST, HS4.out⟩
            case measure => simp [intOf]; omega
          · obtain rfl : q = nO := by omega
            have HS := hide hS
            clear hS
            have HT0 := hide (TkA.start (gs := gs) HC.out.len)
            have HB0 := hide (TkB.start (gs := gs) hn (HC.out.bnd hq hn (by rw [roots_len HRR.out]; exact HG.out.nR_) HF4.out))
            have HTA := hide (fun m => takeT_any Bt gh gl AO AR q cO nR cR obs gs HGS.out HG.out.fl hn HV.out HF4.out m)
            have HKE := hide (fun m => keepT_any Bt gh gl AO AR q cO nR cR obs gs HGS.out HG.out.fl HV.out m)
            have HFX := hide (hF.more (D' := fun k => k < w.heap.size) (fun k hk _ => hk))
            go_wp2_with fail
            go_loopw [74] (fun s wr => ∃ (k2 : Nat) (h l2 : List Int), k2 ≤ k ∧ s = .int .i64 k2 ∧ Hid (TkA gs q (from_.take k2) l h l2) ∧ Sep No w wr [keIt gh q h, keIt gl q l2, blkI w.heap.size 25 #[.slice AO q cO, .slice AR nR cR], blkI Bt 97 (tCells gh gl AO AR q cO nR cR), blkI Bv 95 #[.pointer (some ⟨Bt, 0, none⟩)]]) (fun s _ => k - (intOf s).toNat)
            case atStart => exact ⟨0, _, l, by omega, rfl, HT0, HS.out⟩
            case round =>
              clear HS HT0
              obtain ⟨k2, h, l2, hk2, rfl, HT, hS⟩ := hrel
              obtain ⟨g1, g2, g3, g4⟩ := hS.rules 4 (g := Bv) (t := 95) rfl
              have g5 := g1 0
              by_cases hlk : k2 < k
              · have hkl : k2 < from_.length := by rw [HFL.out]; exact hlk
                obtain ⟨ad, hA, _, had, hc⟩ := (HFX.out.below hS.below_).at_ hlk
                have e0 := hc _ (ints_get' from_ k2 hkl)
                obtain ⟨r0, r1⟩ := HFR.out _ (List.getElem_mem hkl)
                obtain ⟨z, hz⟩ := int_nat r0
                have HTK := hide (List.take_succ_eq_append_getElem hkl)
                rw [hz] at e0 r1 HTK
                have hz2 : z < q := by omega
                have hj := hS.join (l := [keIt gh q h, keIt gl q l2]) (l' := [_, _, _])
                have C := hide (HTA.out 24 wr z h l2 (trM_of hS HOO.out) (hj.get 0 rfl) hz2 HT.out.tk.lh HT.out.tk.ll (HB0.out.after HT.out.tk))
                have HST := hide (fun h9 l9 => HT.out.step (h2 := h9) (l2 := l9) HV.out hz2 (fun x hx => HFR.out x (List.mem_of_mem_take hx)))
                rw [← HTK.out] at HST
                have HJ := hide hj
                subst hA
                clear hS hj hc hz r0 g1 g4
                go_wp2_with fail
                refine C.out.mono ?_
                rintro e w4 ⟨⟨h4, l4⟩, ⟨v4, rfl⟩, ⟨h5, h6⟩, hP4⟩
                have HS4 := hide (HJ.out.call 0 rfl hP4).split
                have HT4 := hide (HST.out _ _ h5 h6)
                clear hP4 HJ C e0 had h5 h6 HST g2 g3 g5
                go_wp2_with fail
                go_roundw
                case rel => exact ⟨k2 + 1, h4, l4, by omega, by go_num, HT4, HS4.out⟩
                case measure => simp [intOf]; omega
              · obtain rfl : k2 = k := by omega
                rw [List.take_of_length_le (by rw [HFL.out]; omega)] at HT
                obtain ⟨x1, x2, x3, x4⟩ := hS.rules 3 (g := Bt) (t := 97) rfl
                have x5 := (x1 3).trans (show _ = some (.slice (some ⟨gl, 0, none⟩) q q) from rfl)
                have HS := hide hS
                have HK0 := hide (KpA.start (gs := gs) (l := l2) HT.out.tk.lh)
                clear hS g1 g4 x1 x4
                go_wp2_with fail
                go_loopw [87] (fun s wr => ∃ (k3 : Nat) (h3 : List Int), k3 ≤ q ∧ s = .int .i64 k3 ∧ Hid (KpA gs q k3 l2 h h3) ∧ Sep No w wr [keIt gh q h3, keIt gl q l2, blkI w.heap.size 25 #[.slice AO q cO, .slice AR nR cR], blkI Bt 97 (tCells gh gl AO AR q cO nR cR), blkI Bv 95 #[.pointer (some ⟨Bt, 0, none⟩)]]) (fun s _ => q - (intOf s).toNat)
                case atStart => exact ⟨0, h, by omega, rfl, HK0, HS.out⟩
                case round =>
                  clear HS HK0 x2 x3 x5 g2 g3 g5
                  obtain ⟨k3, h3, hk3, rfl, HK, hS⟩ := hrel
                  obtain ⟨g1, g2, g3, g4⟩ := hS.rules 4 (g := Bv) (t := 95) rfl
                  have g5 := g1 0
                  by_cases hl3 : k3 < q
                  · obtain ⟨f1, f2⟩ := row_int (hS.get 1 rfl) k3 hl3
                    obtain ⟨y, hy⟩ : ∃ y, l2.getD k3 0 = y := ⟨_, rfl⟩
                    rw [hy] at f1
                    by_cases hpos : 0 < y
                    · have k1 : decide (0 < y) = true := by simp [hpos]
                      have C := hide (HKE.out 24 wr k3 h3 (trM_of hS HOO.out) (hS.get 0 rfl) hl3 HK.out.kp.lh (by
                        have h1 := sumN_le (f := fun x => if h3.getD x 0 = 1 then (1 : Int) else 0) (n := q) 1 (fun x _ => by split <;> omega)
                        unfold Trn
                        omega))
                      have HST := hide (fun h9 => HK.out.step (h2 := h9) HV.out hl3 (by rw [hy]; exact hpos))
                      have HS := hide hS
                      clear hS hy hpos g1 g4 HK
                      go_wp2_with fail
                      refine C.out.mono ?_
                      rintro e w4 ⟨h4, ⟨v4, rfl⟩, ⟨h5, h6⟩, hP4⟩
                      have HS4 := hide (HS.out.call 0 rfl hP4)
                      have HT4 := hide (HST.out _ h5 h6)
                      clear hP4 HS C h5 h6 HST g2 g3 g5 f1 f2
                      go_wp2_with fail
                      go_roundw
                      case rel => exact ⟨k3 + 1, h4, by omega, by go_num, HT4, HS4.out⟩
                      case measure => simp [intOf]; omega
                    · have k1 : decide (0 < y) = false := by simp only [hpos, decide_false]
                      have HT4 := hide (HK.out.skip (by rw [hy]; exact hpos))
                      have HS := hide hS
                      clear hS hy hpos g1 g4 HK
                      go_wp2_with fail
                      go_roundw
                      case rel => exact ⟨k3 + 1, h3, by omega, by go_num, HT4, HS.out⟩
                      case measure => simp [intOf]; omega
                  · obtain rfl : k3 = q := by omega
                    have HFIN := hide (fun x hx => trial_fin HV.out HFR.out HC.out HT.out HK.out x hx)
                    obtain ⟨x1, x2, x3, x4⟩ := hS.rules 3 (g := Bt) (t := 97) rfl
                    have x5 := (x1 2).trans (show _ = some (.slice (some ⟨gh, 0, none⟩) k3 k3) from rfl)
                    have HS := hide ((hS.sub (l := [keIt gh k3 h3, blkI w.heap.size 25 #[.slice AO k3 cO, .slice AR nR cR], blkI Bt 97 (tCells gh gl AO AR k3 cO nR cR), blkI Bv 95 #[.pointer (some ⟨Bt, 0, none⟩)]]) (by simp)).nilRow0 3 1)
                    clear hS g1 g4 x1 x4
                    go_wp2_with fail
                    go_loopw [17, 103] (fun s17 s wr => ∃ (k4 m c : Nat) (A : Option Addr), k4 ≤ k3 ∧ s = .int .i64 k4 ∧ s17 = .slice A m c ∧ m ≤ k4 ∧ Sep No w wr [rowI 3 1 A m c (ints (ones 1 h3 k4)), keIt gh k3 h3, blkI w.heap.size 25 #[.slice AO k3 cO, .slice AR nR cR], blkI Bt 97 (tCells gh gl AO AR k3 cO nR cR), blkI Bv 95 #[.pointer (some ⟨Bt, 0, none⟩)]]) (fun _ s _ => k3 - (intOf s).toNat)
                    case atStart => exact ⟨0, 0, 0, none, by omega, rfl, rfl, by omega, HS.out⟩
                    case round =>
                      clear HS x2 x3 x5 g2 g3 g5
                      obtain ⟨k4, m, c, A, hk4, rfl, rfl, hm, hS⟩ := hrel
                      by_cases hl4 : k4 < k3
                      · obtain ⟨f1, f2⟩ := row_int (hS.get 1 rfl) k4 hl4
                        have HU := hide (ones_succ 1 h3 k4)
                        obtain ⟨y, hy⟩ : ∃ y, h3.getD k4 0 = y := ⟨_, rfl⟩
                        rw [hy] at f1 HU
                        by_cases h1 : y = 1
                        · have k1 : (y == 1) = true := by simp [h1]
                          have HU2 := hide (HU.out.trans (by rw [if_pos h1]))
                          clear hy h1 HU
                          go_wp2_with (first
                            | (at_builtin
                               refine wpList_app1 (cs := #[.int .i64 k4]) rfl (.tmp 110) (.tmp 112) 35 rfl sInt hS 0 (n := m) rfl rfl rfl (by simp) rfl rfl (by omega) ?_
                               intro A4 c4 w4 hS4 hC4))
                          go_roundw
                          case rel => exact ⟨k4 + 1, m + 1, c4, A4, by omega, by go_num, rfl, by omega, by rw [HU2.out, ints_snoc_]; exact hS4⟩
                          case measure => simp [intOf]; omega
                        · have k1 : (y == 1) = false := by simp [h1]
                          have HU2 := hide (HU.out.trans (by rw [if_neg h1, List.append_nil]))
                          have HS := hide hS
                          clear hy h1 HU hS
                          go_wp2_with fail
                          go_roundw
                          case rel => exact ⟨k4 + 1, m, c, A, by omega, by go_num, rfl, by omega, by rw [HU2.out]; exact HS.out⟩
                          case measure => simp [intOf]; omega
                      · obtain rfl : k4 = k3 := by omega
                        have HS := hide hS
                        clear hS
                        go_wp2_with fail
                        go_ret2
                        exact ⟨A, m, c, h3, rfl, HFIN.out, HS.out.sub (by simp)⟩
end Go.Proofs.Ytaajkldhnjoicaa

namespace Go.Proofs.Ytaajkldhnjoicaa
open Go.RowKit

def filt (p : Nat → Bool) (k : Nat) : List Int := ((List.range k).filter p).map fun (i : Nat) => (i : Int)
theorem filt_succ (p : Nat → Bool) (k : Nat) : filt p (k + 1) = filt p k ++ if p k = true then [(k : Int)] else [] := by
  unfold filt
  rw [List.range_succ, List.filter_append, List.map_append]
  congr 1
  by_cases e : p k = true
  · rw [if_pos e, List.filter_cons_of_pos e]; rfl
  · rw [if_neg e, List.filter_cons_of_neg e]; rfl
theorem filt_congr {p q : Nat → Bool} {k : Nat} (h : ∀ i, i < k → p i = q i) : filt p k = filt q k := by
  unfold filt
  rw [List.filter_congr (fun i hi => h i (List.mem_range.1 hi))]
/-- Marks that say P. -/
def BlS (n : Nat) (bs : List Bool) (P : Nat → Prop) : Prop := bs.length = n ∧ ∀ j : Nat, j < n → (bs.getD j false = true ↔ P j)
theorem BlS.iff {n : Nat} {bs : List Bool} {P Q : Nat → Prop} (h : BlS n bs P) (hpq : ∀ j, j < n → (P j ↔ Q j)) : BlS n bs Q := ⟨h.1, fun j hj => (h.2 j hj).trans (hpq j hj)⟩
theorem BlS.zero (n : Nat) : BlS n (List.replicate n false) (fun _ => False) := ⟨by simp, fun j hj => by simp [List.getD_eq_getElem?_getD, hj]⟩
theorem BlS.set_ {n i : Nat} {bs : List Bool} {P Q : Nat → Prop} (h : BlS n bs P) (hi : i < n) (hq : ∀ j, j < n → (Q j ↔ P j ∨ j = i)) : BlS n (bs.set i true) Q := by
  refine ⟨by rw [List.length_set]; exact h.1, fun j hj => ?_⟩
  rw [bget_set (by have := h.1; omega), hq j hj]
  split
  · rename_i e; simp [e]
  · rename_i e; rw [h.2 j hj]; simp [e]
/-- A mark, of which the walk sees nothing. -/
def Yes (b : Bool) : Prop := b = true
section
variable {gs : List (List Val)} {vs : List Val} {n : Nat}
theorem yes_iff {b : Bool} {P : Prop} (h : Hid (Yes b ↔ P)) : Hid (b = true ↔ P) := h
theorem trIn_snoc {fs : List Int} {z x : Int} : TrIn gs n (fs ++ [z]) x ↔ TrIn gs n fs x ∨ x = z ∨ Via gs n z x := by
  unfold TrIn
  constructor
  · rintro ⟨i, hi, h⟩
    rcases List.mem_append.1 hi with h1 | h1
    · exact .inl ⟨i, h1, h⟩
    · rw [show i = z from by simpa using h1] at h; exact .inr h
  · rintro (⟨i, hi, h⟩ | h)
    · exact ⟨i, by simp [hi], h⟩
    · exact ⟨z, by simp, h⟩
end

set_option maxRecDepth 100000 in
set_option maxHeartbeats 16000000 in
theorem refTrial_any (w : World) (AO AR AF : Option Addr) (nO cO nR cR nF cF : Nat) (obs : List Ob) (roots : List Val) (from_ : List Int) (hO : ObsRd w (fun _ => True) AO nO obs) (hR : Rd w (fun _ => True) 2 AR nR (vals roots)) (hF : Rd w (fun _ => True) 1 AF nF (ints from_)) (hG : GOk nO nR obs roots) (hnF : nF ≤ 24) (hfr : ∀ x ∈ from_, 0 ≤ x ∧ x < (nO : Int)) :
    Calls Try.prog 25 #[.agg #[.slice AO nO cO, .slice AR nR cR], .slice AF nF cF] w fun e w' => ∃ A n c p, e = .returned (.slice A n c) ∧ n ≤ nO ∧ (∀ x : Nat, x < nO → (p x = true ↔ TrIn (obs.map Ob.fields) nO from_ x ∧ ¬ TrHeld (obs.map Ob.fields) roots nO from_ x)) ∧ Sep No w w' [rowI 3 1 A n c (ints (filt p nO))] := by
  have hn := hG.nO_
  have hS0 := (Sep.nil No w).blkAt 25 #[.slice AO nO cO, .slice AR nR cR] rfl
  obtain ⟨a1, a2, a3, a4⟩ := hS0.rules 0 (g := w.heap.size) (t := 25) rfl
  have a5 := a1 0
  have a6 := a1 1
  have hfl : from_.length = nF := by have := hF.1; simpa using this
  obtain ⟨gs, hgs⟩ : ∃ gs, obs.map Ob.fields = gs := ⟨_, rfl⟩
  have HGS := hide hgs
  have hv : ∀ x : Int, ValsOk nO (fieldsI gs x) := fun x => by have := fieldsI_ok (x := x) hG.vg; rw [hG.len, hgs] at this; exact this
  have C1 := hide (ways_any _ AO AR nO cO nR cR obs (hO.below hS0.below_) hn hG.fl (by rw [hgs]; exact hv))
  rw [hgs] at C1 ⊢
  have HFR := hide hfr
  have HFL := hide hfl
  have HG := hide hG
  have HV := hide hv
  have HOO := hide hO
  have HRR := hide hR
  have HFD := hide hF
  have HS0 := hide hS0
  have hm1 : nO * nO ≤ 576 := Nat.mul_le_mul hn hn
  obtain ⟨N, hN⟩ : ∃ N, nO * nO = N := ⟨_, rfl⟩
  have HN := hide hN
  rw [hN] at hm1 C1
  clear hS0 a1 a4 hG hfl hfr hgs hv hN hO hR hF
  go_enter Try.func25, Try.ntmps25
  go_wp2_with fail
  refine C1.out.mono ?_
  rintro e w1 ⟨A1, c1, ws, rfl, hws, hP⟩
  have HWS := hide hws
  have HS1 := hide (sepNewR HS0.out hP)
  clear hP HS0 C1 a2 a3 a5 a6 hws
  go_wp2_with (first
    | (at_make
       refine wpList_make rfl (.tmp 23) (.tmp 23) 75 rfl HS1.out Try.underlying75 bInfo (by omega) .i64 .i64 nO rfl rfl (by omega) ?_
       intro w2 hS2 hb2
       rw [bMade] at hS2
       (have HS2 := hide hS2)
       clear hS2 hb2))
  have HI0 := hide ((BlS.zero nO).iff (Q := fun j => TrIn gs nO (from_.take 0) j) (fun j _ => by simp [TrIn]))
  go_loopw [27] (fun s wr => ∃ (k : Nat) (ins : List Bool), k ≤ nF ∧ s = .int .i64 k ∧ Hid (BlS nO ins (fun j => TrIn gs nO (from_.take k) j)) ∧ Sep No w wr [blkI w.heap.size 25 #[.slice AO nO cO, .slice AR nR cR], rowI 4 1 A1 N c1 (bls ws), rowI 4 1 (some ⟨w1.heap.size, 0, none⟩) nO nO (bls ins)]) (fun s _ => nF - (intOf s).toNat)
  case atStart => exact ⟨0, _, by omega, rfl, HI0, HS2.out⟩
  case round =>
    clear HS2 HS1 HI0
    obtain ⟨k, ins, hk, rfl, HI, hS⟩ := hrel
    by_cases hlt : k < nF
    · have hkl : k < from_.length := by rw [HFL.out]; exact hlt
      obtain ⟨ad, hA, _, had, hc⟩ := (HFD.out.below hS.below_).at_ hlt
      have e0 := hc _ (ints_get' from_ k hkl)
      obtain ⟨r0, r1⟩ := HFR.out _ (List.getElem_mem hkl)
      obtain ⟨z, hz⟩ := int_nat r0
      have HTK := hide (List.take_succ_eq_append_getElem hkl)
      rw [hz] at e0 r1 HTK
      have hz2 : z < nO := by omega
      obtain ⟨f1, f2⟩ := bls_cellAt (hS.get 2 rfl) z hz2
      obtain ⟨y, hy⟩ : ∃ y, ins.getD z false = y := ⟨_, rfl⟩
      rw [hy] at f1
      have hsg := hS.hi 2 rfl w1.heap.size rfl
      have hS3 := hS.store 2 (g := w1.heap.size) rfl z (.bool true)
      rw [bls_set] at hS3
      have HS3 := hide hS3
      have HI3 := hide (HI.out.set_ (Q := fun j => (TrIn gs nO (from_.take k) j ∨ j = z) ∨ (j < 0 ∧ Via gs nO z j)) hz2 (fun j _ => by simp))
      obtain ⟨q, hq⟩ : ∃ q, z * nO = q := ⟨_, rfl⟩
      have HQ := hide hq
      have hqi : ((z : Int) * (nO : Int)) = (q : Int) := by rw [← hq]; simp
      have hqN : q + nO ≤ N := by rw [← hq, ← HN.out, ← Nat.succ_mul]; exact Nat.mul_le_mul_right _ hz2
      subst hA
      clear hS hS3 hc hz r0 hy hq
      go_wp2_with fail
      go_loopw [10] (fun s wr => ∃ (J : Nat) (ins : List Bool), J ≤ nO ∧ s = .int .i64 J ∧ Hid (BlS nO ins (fun j => (TrIn gs nO (from_.take k) j ∨ j = z) ∨ (j < J ∧ Via gs nO z j))) ∧ Sep No w wr [blkI w.heap.size 25 #[.slice AO nO cO, .slice AR nR cR], rowI 4 1 A1 N c1 (bls ws), rowI 4 1 (some ⟨w1.heap.size, 0, none⟩) nO nO (bls ins)]) (fun s _ => nO - (intOf s).toNat)
      case atStart => exact ⟨0, _, by omega, rfl, HI3, HS3.out⟩
      case round =>
        clear HS3 HI3 f1 f2 e0 had hsg
        obtain ⟨J, it, hJ, rfl, HI, hS⟩ := hrel
        by_cases hlJ : J < nO
        · obtain ⟨gw, hgw, f1, f2⟩ := bls_cell (hS.get 1 rfl) (q + J) (by omega)
          subst hgw
          have hwy := HWS.out z J hz2 hlJ
          unfold wyAt at hwy
          rw [HQ.out] at hwy
          obtain ⟨f3, f4⟩ := bls_cellAt (hS.get 2 rfl) J hlJ
          have hsg := hS.hi 2 rfl w1.heap.size rfl
          have hS3 := hS.store 2 (g := w1.heap.size) rfl J (.bool true)
          rw [bls_set] at hS3
          have HS3 := hide hS3
          have HS := hide hS
          obtain ⟨y, hy⟩ : ∃ y, ws.getD (q + J) false = y := ⟨_, rfl⟩
          obtain ⟨y2, hy2⟩ : ∃ y, it.getD J false = y := ⟨_, rfl⟩
          rw [hy] at f1 hwy
          rw [hy2] at f3
          cases y with
          | true =>
            have HI4 := hide (HI.out.set_ (Q := fun j => (TrIn gs nO (from_.take k) j ∨ j = z) ∨ (j < J + 1 ∧ Via gs nO z j)) hlJ (fun j _ => by
              have hV := hwy.1 rfl
              constructor
              · rintro (h | ⟨h1, h2⟩)
                · exact .inl (.inl h)
                · by_cases e : j = J
                  · exact .inr e
                  · exact .inl (.inr ⟨by omega, h2⟩)
              · rintro ((h | ⟨h1, h2⟩) | h)
                · exact .inl h
                · exact .inr ⟨by omega, h2⟩
                · subst h; exact .inr ⟨by omega, hV⟩))
            clear hS hS3 hy hy2 hwy HI
            go_wp2_with fail
            go_roundw
            case rel => exact ⟨J + 1, _, by omega, by go_num, HI4, HS3.out⟩
            case measure => simp [intOf]; omega
          | false =>
            have HI4 := hide (HI.out.iff (Q := fun j => (TrIn gs nO (from_.take k) j ∨ j = z) ∨ (j < J + 1 ∧ Via gs nO z j)) (fun j _ => by
              have hV : ¬ Via gs nO z J := fun h => by have := hwy.2 h; cases this
              constructor
              · rintro (h | ⟨h1, h2⟩)
                · exact .inl h
                · exact .inr ⟨by omega, h2⟩
              · rintro (h | ⟨h1, h2⟩)
                · exact .inl h
                · by_cases e : j = J
                  · subst e; exact absurd h2 hV
                  · exact .inr ⟨by omega, h2⟩))
            clear hS hS3 hy hy2 hwy HI
            go_wp2_with fail
            go_roundw
            case rel => exact ⟨J + 1, _, by omega, by go_num, HI4, HS.out⟩
            case measure => simp [intOf]; omega
        · obtain rfl : J = nO := by omega
          have HI4 := hide (HI.out.iff (Q := fun j => TrIn gs J (from_.take (k + 1)) j) (fun j hj => by
            rw [HTK.out, trIn_snoc]
            constructor
            · rintro ((h | h) | ⟨_, h⟩)
              · exact .inl h
              · exact .inr (.inl (by omega))
              · exact .inr (.inr h)
            · rintro (h | h | h)
              · exact .inl (.inl h)
              · exact .inl (.inr (by omega))
              · exact .inr ⟨hj, h⟩))
          have HS := hide hS
          clear hS HI
          go_wp2_with fail
          go_roundw
          case rel => exact ⟨k + 1, _, by omega, by go_num, HI4, HS.out⟩
          case measure => simp [intOf]; omega
    · obtain rfl : k = nF := by omega
      rw [List.take_of_length_le (by rw [HFL.out]; omega)] at HI
      have HS := hide hS
      clear hS
      go_wp2_with (first
        | (at_make
           refine wpList_make rfl (.tmp 51) (.tmp 51) 75 rfl HS.out Try.underlying75 bInfo (by omega) .i64 .i64 nO rfl rfl (by omega) ?_
           intro w3 hS3 hb3
           rw [bMade] at hS3
           (have HS3 := hide hS3)
           clear hS3 hb3))
      obtain ⟨g0, hg0⟩ : ∃ g, wr.heap.size = g := ⟨_, rfl⟩
      rw [hg0] at HS3 ⊢
      have HFL0 := hide hg0
      have HI0 := hide ((BlS.zero nO).iff (Q := fun x => ∃ j : Nat, j < 0 ∧ TrFst gs roots nO from_ j ∧ TrIn gs nO from_ j ∧ Star gs nO j x) (fun j _ => by
        constructor
        · exact False.elim
        · rintro ⟨j, h, _⟩; omega))
      have HIN := hide (fun j hj => HI.out.2 j hj)
      have HNR := hide HG.out.nR_
      clear HS hg0 HI
      go_loopw [12] (fun s w4 => ∃ (J : Nat) (hs : List Bool), J ≤ nO ∧ s = .int .i64 J ∧ Hid (BlS nO hs (fun x => ∃ j : Nat, j < J ∧ TrFst gs roots nO from_ j ∧ TrIn gs nO from_ j ∧ Star gs nO j x)) ∧ Sep No w w4 [blkI w.heap.size 25 #[.slice AO nO cO, .slice AR nR cR], rowI 4 1 A1 N c1 (bls ws), rowI 4 1 (some ⟨w1.heap.size, 0, none⟩) nO nO (bls ins), rowI 4 1 (some ⟨g0, 0, none⟩) nO nO (bls hs)]) (fun s _ => nO - (intOf s).toNat)
      case atStart => exact ⟨0, _, by omega, rfl, HI0, HS3.out⟩
      case round =>
        clear HS3 HI0
        obtain ⟨J, hs, hJ, rfl, HH, hS⟩ := hrel
        by_cases hlJ : J < nO
        · obtain ⟨x1, x2, x3, x4⟩ := hS.rules 0 (g := w.heap.size) (t := 25) rfl
          have x5 := x1 0
          have x6 := x1 1
          have C := refers_any wr AR nR cR roots (J : Int) (by have := HNR.out; omega) (HRR.out.below hS.below_)
          have hrf := refers_iff roots (J : Int)
          obtain ⟨b0, hb0⟩ : ∃ b, refers roots (J : Int) = b := ⟨_, rfl⟩
          rw [hb0] at C hrf
          have HC := hide C
          have HRF := hide (show b0 = true ↔ (true, (J : Int)) ∈ roots ∨ ∃ i : Nat, i < 0 ∧ ¬ TrIn gs nO from_ i ∧ (true, (J : Int)) ∈ fieldsI gs (i : Int) from hrf.trans ⟨.inl, fun h => by
            rcases h with h | ⟨i, h, _⟩
            · exact h
            · omega⟩)
          have HS := hide hS
          clear hS C hrf hb0 x1 x4
          go_wp2_with fail
          refine HC.out.mono ?_
          rintro e w5 ⟨rfl, hb5⟩
          have HS5 := hide (HS.out.below hb5)
          clear HS HC hb5 x2 x3 x5 x6
          go_wp2_with fail
          go_loopw [13, 14] (fun s13 s wr => ∃ (I : Nat) (b : Bool), I ≤ nO ∧ s13 = .bool b ∧ s = .int .i64 I ∧ Hid (Yes b ↔ (true, (J : Int)) ∈ roots ∨ ∃ i : Nat, i < I ∧ ¬ TrIn gs nO from_ i ∧ (true, (J : Int)) ∈ fieldsI gs (i : Int)) ∧ Sep No w wr [blkI w.heap.size 25 #[.slice AO nO cO, .slice AR nR cR], rowI 4 1 A1 N c1 (bls ws), rowI 4 1 (some ⟨w1.heap.size, 0, none⟩) nO nO (bls ins), rowI 4 1 (some ⟨g0, 0, none⟩) nO nO (bls hs)]) (fun _ s _ => nO - (intOf s).toNat)
          case atStart => exact ⟨0, b0, by omega, rfl, rfl, HRF, HS5.out⟩
          case round =>
            clear HS5 HRF
            obtain ⟨I, b, hI, rfl, rfl, HB, hS⟩ := hrel
            replace HB := yes_iff HB
            by_cases hlI : I < nO
            · obtain ⟨f1, f2⟩ := bls_cellAt (hS.get 2 rfl) I hlI
              have hin := HIN.out I hlI
              obtain ⟨y, hy⟩ : ∃ y, ins.getD I false = y := ⟨_, rfl⟩
              rw [hy] at f1 hin
              cases y with
              | true =>
                have HB2 := hide (show b = true ↔ (true, (J : Int)) ∈ roots ∨ ∃ i : Nat, i < I + 1 ∧ ¬ TrIn gs nO from_ i ∧ (true, (J : Int)) ∈ fieldsI gs (i : Int) from HB.out.trans ⟨fun h => h.imp id (fun ⟨i, h1, h2⟩ => ⟨i, by omega, h2⟩), fun h => h.imp id (fun ⟨i, h1, h2, h3⟩ => ⟨i, by
                  by_cases e : i = I
                  · subst e; exact absurd (hin.1 rfl) h2
                  · omega, h2, h3⟩)⟩)
                have HS := hide hS
                clear hS hin hy HB
                go_wp2_with fail
                go_roundw
                case rel => exact ⟨I + 1, b, by omega, rfl, by go_num, HB2, HS.out⟩
                case measure => simp [intOf]; omega
              | false =>
                have hni : ¬ TrIn gs nO from_ I := fun h => by have := hin.2 h; cases this
                obtain ⟨x1, x2, x3, x4⟩ := hS.rules 0 (g := w.heap.size) (t := 25) rfl
                have x5 := x1 0
                obtain ⟨ad, o, hAO, _, had, e0, hrd, hfi, ho4, hofl⟩ := ob_at (HOO.out.below hS.below_) HGS.out (fun o ho => HG.out.fl o ho) hlI
                have C := refers_any wr o.A o.n o.c o.fields (J : Int) (by omega) hrd
                have hrf := refers_iff o.fields (J : Int)
                rw [← hfi] at hrf
                obtain ⟨b1, hb1⟩ : ∃ b, refers o.fields (J : Int) = b := ⟨_, rfl⟩
                rw [hfi, hb1] at hrf
                rw [hb1] at C
                rw [← hfi] at hrf
                have HC := hide C
                have HS := hide hS
                have HB2 := hide (show Yes (b || b1) ↔ (true, (J : Int)) ∈ roots ∨ ∃ i : Nat, i < I + 1 ∧ ¬ TrIn gs nO from_ i ∧ (true, (J : Int)) ∈ fieldsI gs (i : Int) from by
                  unfold Yes
                  rw [Bool.or_eq_true, HB.out, hrf]
                  constructor
                  · rintro ((h | ⟨i, h1, h2⟩) | h)
                    · exact .inl h
                    · exact .inr ⟨i, by omega, h2⟩
                    · exact .inr ⟨I, by omega, hni, h⟩
                  · rintro (h | ⟨i, h1, h2, h3⟩)
                    · exact .inl (.inl h)
                    · by_cases e : i = I
                      · subst e; exact .inr h3
                      · exact .inl (.inr ⟨i, by omega, h2, h3⟩))
                subst hAO
                clear hS C hrf hb1 hni hin hy HB hrd hfi x1 x4
                go_wp2_with fail
                refine HC.out.mono ?_
                rintro e w6 ⟨rfl, hb6⟩
                have HS6 := hide (HS.out.below hb6)
                clear HS HC hb6 x2 x3 x5 e0 had
                cases b1 with
                | true =>
                  rw [Bool.or_true] at HB2
                  go_wp2_with fail
                  go_roundw
                  case rel => exact ⟨I + 1, true, by omega, rfl, by go_num, HB2, HS6.out⟩
                  case measure => simp [intOf]; omega
                | false =>
                  rw [Bool.or_false] at HB2
                  go_wp2_with fail
                  go_roundw
                  case rel => exact ⟨I + 1, b, by omega, rfl, by go_num, HB2, HS6.out⟩
                  case measure => simp [intOf]; omega
            · obtain rfl : I = nO := by omega
              have HB2 := hide (show b = true ↔ TrFst gs roots I from_ J from HB.out)
              have HIJ := hide (HIN.out J hlJ)
              obtain ⟨y, hy⟩ : ∃ y, ins.getD J false = y := ⟨_, rfl⟩
              have HY := hide hy
              rw [hy] at HIJ
              have HH0 := hide (HH.out.iff (Q := fun x => (∃ j : Nat, j < J ∧ TrFst gs roots I from_ j ∧ TrIn gs I from_ j ∧ Star gs I j x) ∨ (x < 0 ∧ (b = true ∧ y = true) ∧ Star gs I J x)) (fun x _ => ⟨.inl, fun h => h.elim id (fun h => by omega)⟩))
              have HEND := hide (show ∀ hs2 : List Bool, BlS I hs2 (fun x => (∃ j : Nat, j < J ∧ TrFst gs roots I from_ j ∧ TrIn gs I from_ j ∧ Star gs I j x) ∨ ((b = true ∧ y = true) ∧ Star gs I J x)) → BlS I hs2 (fun x => ∃ j : Nat, j < J + 1 ∧ TrFst gs roots I from_ j ∧ TrIn gs I from_ j ∧ Star gs I j x) from fun hs2 h => h.iff fun x _ => by
                rw [HB2.out, HIJ.out]
                constructor
                · rintro (⟨j, h1, h2⟩ | ⟨⟨h1, h2⟩, h3⟩)
                  · exact ⟨j, by omega, h2⟩
                  · exact ⟨J, by omega, h1, h2, h3⟩
                · rintro ⟨j, h1, h2, h3, h4⟩
                  by_cases e : j = J
                  · subst e; exact .inr ⟨⟨h2, h3⟩, h4⟩
                  · exact .inl ⟨j, by omega, h2, h3, h4⟩)
              obtain ⟨q, hq⟩ : ∃ q, J * I = q := ⟨_, rfl⟩
              have HQ := hide hq
              have hqi : ((J : Int) * (I : Int)) = (q : Int) := by rw [← hq]; simp
              have hqN : q + I ≤ N := by rw [← hq, ← HN.out, ← Nat.succ_mul]; exact Nat.mul_le_mul_right _ hlJ
              have HS := hide hS
              clear hS HB hq hy HH
              go_wp2_with fail
              go_loopw [15] (fun s wr => ∃ (K : Nat) (hs2 : List Bool), K ≤ I ∧ s = .int .i64 K ∧ Hid (BlS I hs2 (fun x => (∃ j : Nat, j < J ∧ TrFst gs roots I from_ j ∧ TrIn gs I from_ j ∧ Star gs I j x) ∨ (x < K ∧ (Yes b ∧ Yes y) ∧ Star gs I J x))) ∧ Sep No w wr [blkI w.heap.size 25 #[.slice AO I cO, .slice AR nR cR], rowI 4 1 A1 N c1 (bls ws), rowI 4 1 (some ⟨w1.heap.size, 0, none⟩) I I (bls ins), rowI 4 1 (some ⟨g0, 0, none⟩) I I (bls hs2)]) (fun s _ => I - (intOf s).toNat)
              case atStart => exact ⟨0, hs, by omega, rfl, HH0, HS.out⟩
              case round =>
                clear HS HH0
                obtain ⟨K, hs2, hK, rfl, HK, hS⟩ := hrel
                obtain ⟨f1, f2⟩ := bls_cellAt (hS.get 2 rfl) J hlJ
                rw [HY.out] at f1
                by_cases hlK : K < I
                · by_cases hby : b = true ∧ y = true
                  · obtain ⟨rfl, rfl⟩ := hby
                    obtain ⟨gw, hgw, f3, f4⟩ := bls_cell (hS.get 1 rfl) (q + K) (by omega)
                    have hwy := HWS.out J K hlJ hlK
                    unfold wyAt at hwy
                    rw [HQ.out] at hwy
                    obtain ⟨f5, f6⟩ := bls_cellAt (hS.get 3 rfl) K hlK
                    have hsg := hS.hi 3 rfl g0 rfl
                    have hS3 := hS.store 3 (g := g0) rfl K (.bool true)
                    rw [bls_set] at hS3
                    have HS3 := hide hS3
                    have HS := hide hS
                    obtain ⟨y2, hy2⟩ : ∃ y, hs2.getD K false = y := ⟨_, rfl⟩
                    rw [hy2] at f5
                    obtain ⟨y3, hy3⟩ : ∃ y, ws.getD (q + K) false = y := ⟨_, rfl⟩
                    rw [hy3] at f3 hwy
                    have hyes := fun (hst : Star gs I J K) => HK.out.set_ (Q := fun x => (∃ j : Nat, j < J ∧ TrFst gs roots I from_ j ∧ TrIn gs I from_ j ∧ Star gs I j x) ∨ (x < K + 1 ∧ (Yes true ∧ Yes true) ∧ Star gs I J x)) hlK (fun x _ => by
                      constructor
                      · rintro (h | ⟨h1, h2, h3⟩)
                        · exact .inl (.inl h)
                        · by_cases e : x = K
                          · exact .inr e
                          · exact .inl (.inr ⟨by omega, h2, h3⟩)
                      · rintro ((h | ⟨h1, h2, h3⟩) | h)
                        · exact .inl h
                        · exact .inr ⟨by omega, h2, h3⟩
                        · subst h; exact .inr ⟨by omega, ⟨rfl, rfl⟩, hst⟩)
                    have hno := fun (hst : ¬ Star gs I J K) => HK.out.iff (Q := fun x => (∃ j : Nat, j < J ∧ TrFst gs roots I from_ j ∧ TrIn gs I from_ j ∧ Star gs I j x) ∨ (x < K + 1 ∧ (Yes true ∧ Yes true) ∧ Star gs I J x)) (fun x _ => by
                      constructor
                      · rintro (h | ⟨h1, h2, h3⟩)
                        · exact .inl h
                        · exact .inr ⟨by omega, h2, h3⟩
                      · rintro (h | ⟨h1, h2, h3⟩)
                        · exact .inl h
                        · by_cases e : x = K
                          · subst e; exact absurd h3 hst
                          · exact .inr ⟨by omega, h2, h3⟩)
                    have HYES := hide hyes
                    have HNO := hide hno
                    have HWY := hide hwy
                    subst hgw
                    clear hS hS3 hy2 hy3 hwy HK hyes hno
                    by_cases hKJ : K = J
                    · subst hKJ
                      have HK2 := hide (HYES.out (Star.self _))
                      go_wp2_with fail
                      go_roundw
                      case rel => exact ⟨K + 1, _, by omega, by go_num, HK2, HS3.out⟩
                      case measure => simp [intOf]; omega
                    · have k1 : ((K : Int) == (J : Int)) = false := by simp; omega
                      have k2 : (K == J) = false := by simp [hKJ]
                      cases y3 with
                      | true =>
                        have HK2 := hide (HYES.out (.inr (HWY.out.1 rfl)))
                        go_wp2_with fail
                        go_roundw
                        case rel => exact ⟨K + 1, _, by omega, by go_num, HK2, HS3.out⟩
                        case measure => simp [intOf]; omega
                      | false =>
                        have HK2 := hide (HNO.out (fun h => by
                          rcases h with h | h
                          · omega
                          · have := HWY.out.2 h; cases this))
                        go_wp2_with fail
                        go_roundw
                        case rel => exact ⟨K + 1, _, by omega, by go_num, HK2, HS.out⟩
                        case measure => simp [intOf]; omega
                  · have HE := hide (HEND.out hs2 (HK.out.iff (fun x _ => ⟨fun h => h.imp id (fun h => h.2), fun h => h.imp id (fun h => absurd h.1 hby)⟩)))
                    have HS := hide hS
                    clear hS HK
                    cases b with
                    | true =>
                      cases y with
                      | true => exact absurd ⟨rfl, rfl⟩ hby
                      | false =>
                        clear hby
                        go_wp2_with fail
                        go_roundw
                        case rel => exact ⟨J + 1, hs2, by omega, by go_num, HE, HS.out⟩
                        case measure => simp [intOf]; omega
                    | false =>
                      clear hby
                      go_wp2_with fail
                      go_roundw
                      case rel => exact ⟨J + 1, hs2, by omega, by go_num, HE, HS.out⟩
                      case measure => simp [intOf]; omega
                · obtain rfl : K = I := by omega
                  have HE := hide (HEND.out hs2 (HK.out.iff (fun x hx => ⟨fun h => h.imp id (fun h => h.2), fun h => h.imp id (fun h => ⟨hx, h⟩)⟩)))
                  have HS := hide hS
                  clear hS HK
                  go_wp2_with fail
                  go_roundw
                  case rel => exact ⟨J + 1, hs2, by omega, by go_num, HE, HS.out⟩
                  case measure => simp [intOf]; omega
        · obtain rfl : J = nO := by omega
          have HFIN := hide (show ∀ x : Nat, x < J → ((ins.getD x false && !hs.getD x false) = true ↔ TrIn gs J from_ x ∧ ¬ TrHeld gs roots J from_ x) from fun x hx => by
            rw [Bool.and_eq_true, HIN.out x hx, Bool.not_eq_true', ← Bool.not_eq_true]
            exact and_congr_right fun _ => not_congr (HH.out.2 x hx))
          have HS := hide (hS.nilRow0 3 1)
          clear hS HH
          go_wp2_with fail
          go_loopw [16, 17] (fun s16 s wr => ∃ (k4 m c : Nat) (A : Option Addr), k4 ≤ J ∧ s = .int .i64 k4 ∧ s16 = .slice A m c ∧ m ≤ k4 ∧ Sep No w wr [rowI 3 1 A m c (ints (filt (fun i => ins.getD i false && !hs.getD i false) k4)), blkI w.heap.size 25 #[.slice AO J cO, .slice AR nR cR], rowI 4 1 A1 N c1 (bls ws), rowI 4 1 (some ⟨w1.heap.size, 0, none⟩) J J (bls ins), rowI 4 1 (some ⟨g0, 0, none⟩) J J (bls hs)]) (fun _ s _ => J - (intOf s).toNat)
          case atStart => exact ⟨0, 0, 0, none, by omega, rfl, rfl, by omega, HS.out⟩
          case round =>
            clear HS
            obtain ⟨k4, m, c, A, hk4, rfl, rfl, hm, hS⟩ := hrel
            by_cases hl4 : k4 < J
            · obtain ⟨f1, f2⟩ := bls_cellAt (hS.get 3 rfl) k4 hl4
              obtain ⟨f3, f4⟩ := bls_cellAt (hS.get 4 rfl) k4 hl4
              have HU := hide (filt_succ (fun i => ins.getD i false && !hs.getD i false) k4)
              obtain ⟨y, hy⟩ : ∃ y, ins.getD k4 false = y := ⟨_, rfl⟩
              obtain ⟨y2, hy2⟩ : ∃ y, hs.getD k4 false = y := ⟨_, rfl⟩
              rw [hy] at f1 HU
              rw [hy2] at f3 HU
              clear hy hy2
              rcases (show (y = true ∧ y2 = false) ∨ (y && !y2) = false ∧ (y = false ∨ y2 = true) from by cases y <;> cases y2 <;> simp) with ⟨rfl, rfl⟩ | ⟨h1, h2⟩
              · have HU2 := hide (HU.out.trans (show _ = filt (fun i => ins.getD i false && !hs.getD i false) k4 ++ [(k4 : Int)] from by simp))
                clear HU
                go_wp2_with (first
                  | (at_builtin
                     refine wpList_app1 (cs := #[.int .i64 k4]) rfl (.tmp 128) (.tmp 130) 35 rfl sInt hS 0 (n := m) rfl rfl rfl (by simp) rfl rfl (by omega) ?_
                     intro A4 c4 w4 hS4 hC4))
                go_roundw
                case rel => exact ⟨k4 + 1, m + 1, c4, A4, by omega, by go_num, rfl, by omega, by rw [HU2.out, ints_snoc_]; exact hS4⟩
                case measure => simp [intOf]; omega
              · have HU2 := hide (HU.out.trans (by rw [if_neg (by rw [h1]; simp), List.append_nil]))
                have HS := hide hS
                clear HU hS h1
                rcases h2 with rfl | rfl
                · go_wp2_with fail
                  go_roundw
                  case rel => exact ⟨k4 + 1, m, c, A, by omega, by go_num, rfl, by omega, by rw [HU2.out]; exact HS.out⟩
                  case measure => simp [intOf]; omega
                · cases y with
                  | true =>
                    go_wp2_with fail
                    go_roundw
                    case rel => exact ⟨k4 + 1, m, c, A, by omega, by go_num, rfl, by omega, by rw [HU2.out]; exact HS.out⟩
                    case measure => simp [intOf]; omega
                  | false =>
                    go_wp2_with fail
                    go_roundw
                    case rel => exact ⟨k4 + 1, m, c, A, by omega, by go_num, rfl, by omega, by rw [HU2.out]; exact HS.out⟩
                    case measure => simp [intOf]; omega
            · obtain rfl : k4 = J := by omega
              have HS := hide hS
              clear hS
              go_wp2_with fail
              go_ret
              exact ⟨A, m, c, _, rfl, hm, HFIN.out, HS.out.sub (by simp)⟩
end Go.Proofs.Ytaajkldhnjoicaa

namespace Go.Proofs.Ytaajkldhnjoicaa
open Go.RowKit

set_option maxRecDepth 100000 in
set_option maxHeartbeats 4000000 in
theorem trial_bad (w : World) (AO AR AF : Option Addr) (nO cO nR cR nF cF : Nat) (obs : List Ob) (roots : List Val) (hO : ObsRd w (fun _ => True) AO nO obs) (hR : Rd w (fun _ => True) 2 AR nR (vals roots)) (hz : gcheck nO nR obs roots ≠ 0) :
    Calls Try.prog 24 #[.agg #[.slice AO nO cO, .slice AR nR cR], .slice AF nF cF] w fun e w' => e = .returned (.tuple #[.slice none 0 0, .int .i64 (gcheck nO nR obs roots)]) ∧ Below w.heap.size w w' := by
  have hB0 : Below w.heap.size w (w.alloc (.cells #[.slice AO nO cO, .slice AR nR cR] 25)) := (Below.refl _ w).alloc (Nat.le_refl _) _
  have C1 := hide (graphCheck_any _ AO AR nO cO nR cR obs roots (hO.below hB0) (hR.below hB0))
  obtain ⟨x, hx⟩ : ∃ x, gcheck nO nR obs roots = x := ⟨_, rfl⟩
  rw [hx] at C1 hz ⊢
  have y1 : (x != 0) = true := by rw [bne_iff_ne]; exact hz
  have HB0 := hide hB0
  obtain ⟨a1, a2, a3⟩ := (Blk.new w 25 #[.slice AO nO cO, .slice AR nR cR]).rules
  clear hz hx hB0
  go_enter Try.func24, Try.ntmps24
  go_wp2_with fail
  refine C1.out.mono ?_
  rintro e w1 ⟨rfl, hb1⟩
  go_wp2_with fail
  go_ret2
  exact ⟨rfl, HB0.out.trans (hb1.mono HB0.out.size)⟩
set_option maxRecDepth 100000 in
set_option maxHeartbeats 4000000 in
theorem trial_large (w : World) (AO AR AF : Option Addr) (nO cO nR cR nF cF : Nat) (obs : List Ob) (roots : List Val) (hO : ObsRd w (fun _ => True) AO nO obs) (hR : Rd w (fun _ => True) 2 AR nR (vals roots)) (hz : gcheck nO nR obs roots = 0) (hn : 24 < nF) :
    Calls Try.prog 24 #[.agg #[.slice AO nO cO, .slice AR nR cR], .slice AF nF cF] w fun e w' => e = .returned (.tuple #[.slice none 0 0, .int .i64 1]) ∧ Below w.heap.size w w' := by
  have hB0 : Below w.heap.size w (w.alloc (.cells #[.slice AO nO cO, .slice AR nR cR] 25)) := (Below.refl _ w).alloc (Nat.le_refl _) _
  have C1 := hide (graphCheck_any _ AO AR nO cO nR cR obs roots (hO.below hB0) (hR.below hB0))
  rw [hz] at C1
  have HB0 := hide hB0
  obtain ⟨a1, a2, a3⟩ := (Blk.new w 25 #[.slice AO nO cO, .slice AR nR cR]).rules
  clear hz hB0
  go_enter Try.func24, Try.ntmps24
  go_wp2_with fail
  refine C1.out.mono ?_
  rintro e w1 ⟨rfl, hb1⟩
  go_wp2_with fail
  go_ret2
  exact ⟨rfl, HB0.out.trans (hb1.mono HB0.out.size)⟩
/-- Numbers of objects. -/
def Fine (nO : Nat) (l : List Int) : Prop := ∀ x ∈ l, 0 ≤ x ∧ x < (nO : Int)
theorem Fine.nil (nO : Nat) : Fine nO [] := by simp [Fine]
theorem Fine.snoc {nO : Nat} {l : List Int} {x : Int} (h : Fine nO l) (h0 : 0 ≤ x ∧ x < (nO : Int)) : Fine nO (l ++ [x]) := fun y hy => by
  rcases List.mem_append.1 hy with h1 | h1
  · exact h y h1
  · rw [show y = x from by simpa using h1]; exact h0
set_option maxRecDepth 100000 in
set_option maxHeartbeats 4000000 in
theorem trial_arg (w : World) (AO AR AF : Option Addr) (nO cO nR cR nF cF : Nat) (obs : List Ob) (roots : List Val) (from_ : List Int) (hO : ObsRd w (fun _ => True) AO nO obs) (hR : Rd w (fun _ => True) 2 AR nR (vals roots)) (hF : Rd w (fun _ => True) 1 AF nF (ints from_)) (hz : gcheck nO nR obs roots = 0) (hn : nF ≤ 24) (hfr : ¬ Fine nO from_) :
    Calls Try.prog 24 #[.agg #[.slice AO nO cO, .slice AR nR cR], .slice AF nF cF] w fun e w' => e = .returned (.tuple #[.slice none 0 0, .int .i64 2]) ∧ Below w.heap.size w w' := by
  have hS0 := (Sep.nil No w).blkAt 25 #[.slice AO nO cO, .slice AR nR cR] rfl
  obtain ⟨a1, a2, a3, a4⟩ := hS0.rules 0 (g := w.heap.size) (t := 25) rfl
  have C1 := hide (graphCheck_any _ AO AR nO cO nR cR obs roots (hO.below hS0.below_) (hR.below hS0.below_))
  rw [hz] at C1
  have HFL := hide (show from_.length = nF by have := hF.1; simpa using this)
  have HFR := hide hfr
  have HS0 := hide hS0
  clear hz hS0 hfr a4
  go_enter Try.func24, Try.ntmps24
  go_wp2_with fail
  refine C1.out.mono ?_
  rintro e w1 ⟨rfl, hb1⟩
  have hS1 := HS0.out.below hb1
  obtain ⟨b1, b2, b3, b4⟩ := hS1.rules 0 (g := w.heap.size) (t := 25) rfl
  have b5 := b1 0
  have HFD := hide (hF.below hS1.below_)
  have HB1 := hide hS1.below_
  clear hb1 hS1 HS0 C1 a1 a2 a3 b1 b4
  go_wp2_with fail
  go_loop [30] (fun s => ∃ k : Nat, k ≤ nF ∧ s = .int .i64 k ∧ Hid (Fine nO (from_.take k))) (fun s => nF - (intOf s).toNat)
  case atStart => exact ⟨0, by omega, rfl, by rw [List.take_zero]; exact Fine.nil _⟩
  case round =>
    obtain ⟨k, hk, rfl, HN⟩ := hrel
    by_cases hlt : k < nF
    · have hkl : k < from_.length := by rw [HFL.out]; exact hlt
      obtain ⟨ad, hA, _, had, hc⟩ := HFD.out.at_ hlt
      have e0 := hc _ (ints_get' from_ k hkl)
      have HT := hide (List.take_succ_eq_append_getElem hkl)
      obtain ⟨z, hz⟩ : ∃ z, from_[k] = z := ⟨_, rfl⟩
      rw [hz] at e0 HT
      subst hA
      clear hc hz
      by_cases h1 : z < 0
      · have t1 : decide (z < 0) = true := by simp [h1]
        go_wp2_with fail
        go_ret2
        exact ⟨rfl, HB1.out⟩
      · have t1 : decide (z < 0) = false := by simp only [h1, decide_false]
        by_cases h2 : (nO : Int) ≤ z
        · have t2 : decide ((nO : Int) ≤ z) = true := by simp [h2]
          go_wp2_with fail
          go_ret2
          exact ⟨rfl, HB1.out⟩
        · have t2 : decide ((nO : Int) ≤ z) = false := by simp only [h2, decide_false]
          have HN2 := hide (show Fine nO (from_.take (k + 1)) from by rw [HT.out]; exact HN.out.snoc (by omega))
          go_wp2_with fail
          go_round
          case rel => exact ⟨k + 1, by omega, by go_num, HN2⟩
          case measure => simp [intOf]; omega
    · exact absurd (by have := HN.out; rwa [List.take_of_length_le (by rw [HFL.out]; omega)] at this) HFR.out

set_option maxRecDepth 100000 in
set_option maxHeartbeats 4000000 in
theorem trialTells_no (w : World) (AO AR AF : Option Addr) (nO cO nR cR nF cF : Nat) (obs : List Ob) (roots : List Val) (hO : ObsRd w (fun _ => True) AO nO obs) (hR : Rd w (fun _ => True) 2 AR nR (vals roots)) (hz : gcheck nO nR obs roots ≠ 0) (hnF : nF ≤ 9223372036854775807) :
    Calls Try.prog 5 #[.agg #[.slice AO nO cO, .slice AR nR cR], .slice AF nF cF] w fun e w' => e = .returned (.bool true) ∧ Below w.heap.size w w' := by
  have hB0 : Below w.heap.size w (w.alloc (.cells #[.slice AO nO cO, .slice AR nR cR] 25)) := (Below.refl _ w).alloc (Nat.le_refl _) _
  have BA := hide (Blk.new w 25 #[.slice AO nO cO, .slice AR nR cR])
  have HB0 := hide hB0
  have C1 := hide (fun w' (hb : Below w.heap.size w w') => trial_bad w' AO AR AF nO cO nR cR nF cF obs roots (hO.below hb) (hR.below hb) hz)
  have C4 := hide (fun w' (hb : Below w.heap.size w w') => refCheck_any w' AO AR nO cO nR cR obs roots (hO.below hb) (hR.below hb))
  obtain ⟨x, hx⟩ : ∃ x, gcheck nO nR obs roots = x := ⟨_, rfl⟩
  simp only [hx] at C1 C4
  rw [hx] at hz
  have y1 : (x != 0) = true := by rw [bne_iff_ne]; exact hz
  have y2 : (x == 0) = false := by simp [hz]
  obtain ⟨a1, a2, a3⟩ := BA.out.rules
  clear hz hx hB0
  go_enter Try.func5, Try.ntmps5
  go_wp2_with fail
  refine (C1.out _ HB0.out).mono ?_
  rintro e w1 ⟨rfl, hb1⟩
  have HB1 := hide (HB0.out.trans (hb1.mono HB0.out.size))
  have BA1 := hide (BA.out.below_ hb1)
  clear hb1 HB0 BA C1 a1 a2 a3
  obtain ⟨a1, a2, a3⟩ := BA1.out.rules
  go_wp2_with fail
  refine (C4.out _ HB1.out).mono ?_
  rintro e w4 ⟨rfl, hb4⟩
  have HB4 := hide (HB1.out.trans (hb4.mono HB1.out.size))
  clear hb4 HB1 BA1 C4 a1 a2 a3
  go_wp2_with fail
  go_loop [7, 8] (fun s7 s8 => s7 = .int .i64 x ∧ s8 = .int .i64 0) (fun _ _ => 0)
  case atStart => exact ⟨rfl, rfl⟩
  case round =>
    obtain ⟨rfl, rfl⟩ := hrel
    by_cases h0 : 0 < nF
    · go_wp2_with fail
      go_ret
      exact ⟨rfl, HB4.out⟩
    · obtain rfl : nF = 0 := by omega
      go_wp2_with fail
      go_ret
      exact ⟨rfl, HB4.out⟩
set_option maxRecDepth 100000 in
set_option maxHeartbeats 4000000 in
theorem trialTells_large (w : World) (AO AR AF : Option Addr) (nO cO nR cR nF cF : Nat) (obs : List Ob) (roots : List Val) (hO : ObsRd w (fun _ => True) AO nO obs) (hR : Rd w (fun _ => True) 2 AR nR (vals roots)) (hz : gcheck nO nR obs roots = 0) (hn : 24 < nF) (hnF : nF ≤ 9223372036854775807) :
    Calls Try.prog 5 #[.agg #[.slice AO nO cO, .slice AR nR cR], .slice AF nF cF] w fun e w' => e = .returned (.bool true) ∧ Below w.heap.size w w' := by
  have hB0 : Below w.heap.size w (w.alloc (.cells #[.slice AO nO cO, .slice AR nR cR] 25)) := (Below.refl _ w).alloc (Nat.le_refl _) _
  have BA := hide (Blk.new w 25 #[.slice AO nO cO, .slice AR nR cR])
  have HB0 := hide hB0
  have C1 := hide (fun w' (hb : Below w.heap.size w w') => trial_large w' AO AR AF nO cO nR cR nF cF obs roots (hO.below hb) (hR.below hb) hz hn)
  have C4 := hide (fun w' (hb : Below w.heap.size w w') => refCheck_any w' AO AR nO cO nR cR obs roots (hO.below hb) (hR.below hb))
  simp only [hz] at C4
  obtain ⟨a1, a2, a3⟩ := BA.out.rules
  clear hz hB0
  go_enter Try.func5, Try.ntmps5
  go_wp2_with fail
  refine (C1.out _ HB0.out).mono ?_
  rintro e w1 ⟨rfl, hb1⟩
  have HB1 := hide (HB0.out.trans (hb1.mono HB0.out.size))
  have BA1 := hide (BA.out.below_ hb1)
  clear hb1 HB0 BA C1 a1 a2 a3
  obtain ⟨a1, a2, a3⟩ := BA1.out.rules
  go_wp2_with fail
  refine (C4.out _ HB1.out).mono ?_
  rintro e w4 ⟨rfl, hb4⟩
  have HB4 := hide (HB1.out.trans (hb4.mono HB1.out.size))
  clear hb4 HB1 BA1 C4 a1 a2 a3
  go_wp2_with fail
  go_loop [7, 8] (fun s7 s8 => s7 = .int .i64 1 ∧ s8 = .int .i64 0) (fun _ _ => 0)
  case atStart => exact ⟨rfl, rfl⟩
  case round =>
    obtain ⟨rfl, rfl⟩ := hrel
    have h0 : 0 < nF := by omega
    go_wp2_with fail
    go_ret
    exact ⟨rfl, HB4.out⟩
set_option maxRecDepth 100000 in
set_option maxHeartbeats 4000000 in
theorem trialTells_arg (w : World) (AO AR AF : Option Addr) (nO cO nR cR nF cF : Nat) (obs : List Ob) (roots : List Val) (from_ : List Int) (hO : ObsRd w (fun _ => True) AO nO obs) (hR : Rd w (fun _ => True) 2 AR nR (vals roots)) (hF : Rd w (fun _ => True) 1 AF nF (ints from_)) (hz : gcheck nO nR obs roots = 0) (hn : nF ≤ 24) (hfr : ¬ Fine nO from_) :
    Calls Try.prog 5 #[.agg #[.slice AO nO cO, .slice AR nR cR], .slice AF nF cF] w fun e w' => e = .returned (.bool true) ∧ Below w.heap.size w w' := by
  have hS0 := (Sep.nil No w).blkAt 25 #[.slice AO nO cO, .slice AR nR cR] rfl
  have hG := gok_of hO hz
  have hn1 := hG.nO_
  have HS0 := hide hS0
  have C1 := hide (fun w' (hb : Below w.heap.size w w') => trial_arg w' AO AR AF nO cO nR cR nF cF obs roots from_ (hO.below hb) (hR.below hb) (hF.below hb) hz hn hfr)
  have C4 := hide (fun w' (hb : Below w.heap.size w w') => refCheck_any w' AO AR nO cO nR cR obs roots (hO.below hb) (hR.below hb))
  simp only [hz] at C4
  obtain ⟨a1, a2, a3, a4⟩ := hS0.rules 0 (g := w.heap.size) (t := 25) rfl
  have HFL := hide (show from_.length = nF by have := hF.1; simpa using this)
  have HFR := hide hfr
  have HFD := hide hF
  clear hz hS0 hfr hG a4 hF
  go_enter Try.func5, Try.ntmps5
  go_wp2_with fail
  refine (C1.out _ HS0.out.below_).mono ?_
  rintro e w1 ⟨rfl, hb1⟩
  have hS1 := HS0.out.below hb1
  obtain ⟨b1, b2, b3, b4⟩ := hS1.rules 0 (g := w.heap.size) (t := 25) rfl
  have HS1 := hide hS1
  clear hb1 HS0 hS1 C1 a1 a2 a3 b4
  go_wp2_with fail
  refine (C4.out _ HS1.out.below_).mono ?_
  rintro e w4 ⟨rfl, hb4⟩
  have HS4 := hide (HS1.out.below hb4)
  clear hb4 HS1 C4 b1 b2 b3
  go_wp2_with fail
  go_loopw [7, 8] (fun s7 s8 wr => ∃ (k : Nat) (b : Bool), k ≤ nF ∧ s8 = .int .i64 k ∧ s7 = .int .i64 (if b then 2 else 0) ∧ Hid (b = false → Fine nO (from_.take k)) ∧ Sep No w wr [blkI w.heap.size 25 #[.slice AO nO cO, .slice AR nR cR]]) (fun _ s _ => nF - (intOf s).toNat)
  case atStart => exact ⟨0, false, by omega, rfl, rfl, fun _ => by rw [List.take_zero]; exact Fine.nil _, HS4.out⟩
  case round =>
    clear HS4
    obtain ⟨k, b, hk, rfl, rfl, HN, hS⟩ := hrel
    by_cases hlt : k < nF
    · cases b with
      | true =>
        have HB := hide hS.below_
        simp only [if_true]
        clear hS HN
        go_wp2_with fail
        go_ret
        exact ⟨rfl, HB.out⟩
      | false =>
        have hkl : k < from_.length := by rw [HFL.out]; exact hlt
        obtain ⟨ad, hA, _, had, hc⟩ := (HFD.out.below hS.below_).at_ hlt
        have e0 := hc _ (ints_get' from_ k hkl)
        have HT := hide (List.take_succ_eq_append_getElem hkl)
        obtain ⟨z, hz⟩ : ∃ z, from_[k] = z := ⟨_, rfl⟩
        rw [hz] at e0 HT
        subst hA
        have HS := hide hS
        obtain ⟨x1, x2, x3, x4⟩ := hS.rules 0 (g := w.heap.size) (t := 25) rfl
        have x5 := x1 0
        have hk0 : (0 : Int) ≤ (k : Int) := by omega
        have hk1 : (k : Int) < (nF : Int) := by omega
        clear hc hz hS x1 x4
        simp only [Bool.false_eq_true, if_false]
        by_cases h1 : z < 0
        · have t1 : decide (z < 0) = true := by simp [h1]
          clear HN
          go_wp2_with fail
          go_quiet (fail)
          go_wp2_with fail
          go_roundw
          case rel => exact ⟨k + 1, true, by omega, by go_num, rfl, (fun h => by cases h), HS.out.drewN _⟩
          case measure => simp [intOf]; omega
        · have t1 : decide (z < 0) = false := by simp only [h1, decide_false]
          by_cases h2 : (nO : Int) ≤ z
          · have t2 : decide ((nO : Int) ≤ z) = true := by simp [h2]
            clear HN
            go_wp2_with fail
            go_quiet (fail)
            go_wp2_with fail
            go_roundw
            case rel => exact ⟨k + 1, true, by omega, by go_num, rfl, (fun h => by cases h), HS.out.drewN _⟩
            case measure => simp [intOf]; omega
          · have t2 : decide ((nO : Int) ≤ z) = false := by simp only [h2, decide_false]
            have HN2 := hide (show Fine nO (from_.take (k + 1)) from by rw [HT.out]; exact (HN.out rfl).snoc (by omega))
            clear HN
            go_wp2_with fail
            go_quiet (fail)
            go_wp2_with fail
            go_roundw
            case rel => exact ⟨k + 1, false, by omega, by go_num, rfl, fun _ => HN2.out, HS.out.drewN _⟩
            case measure => simp [intOf]; omega
    · cases b with
      | true =>
        have HB := hide hS.below_
        simp only [if_true]
        clear hS HN
        go_wp2_with fail
        go_ret
        exact ⟨rfl, HB.out⟩
      | false => exact absurd (by have := HN.out rfl; rwa [List.take_of_length_le (by rw [HFL.out]; omega)] at this) HFR.out
set_option maxRecDepth 100000 in
set_option maxHeartbeats 4000000 in
theorem trialTells_ok (w : World) (AO AR AF : Option Addr) (nO cO nR cR nF cF : Nat) (obs : List Ob) (roots : List Val) (from_ : List Int) (hO : ObsRd w (fun _ => True) AO nO obs) (hR : Rd w (fun _ => True) 2 AR nR (vals roots)) (hF : Rd w (fun _ => True) 1 AF nF (ints from_)) (hz : gcheck nO nR obs roots = 0) (hn : nF ≤ 24) (hfr : Fine nO from_) :
    Calls Try.prog 5 #[.agg #[.slice AO nO cO, .slice AR nR cR], .slice AF nF cF] w fun e w' => e = .returned (.bool true) ∧ Below w.heap.size w w' := by
  have hS0 := (Sep.nil No w).blkAt 25 #[.slice AO nO cO, .slice AR nR cR] rfl
  have hG := gok_of hO hz
  have hn1 := hG.nO_
  have HS0 := hide hS0
  have C1 := hide (fun w' (hb : Below w.heap.size w w') => trial_ok w' AO AR AF nO cO nR cR nF cF obs roots from_ (hO.below hb) (hR.below hb) (hF.below hb) hz hn hfr)
  have C4 := hide (fun w' (hb : Below w.heap.size w w') => refCheck_any w' AO AR nO cO nR cR obs roots (hO.below hb) (hR.below hb))
  have C5 := hide (fun w' (hb : Below w.heap.size w w') => refTrial_any w' AO AR AF nO cO nR cR nF cF obs roots from_ (hO.below hb) (hR.below hb) (hF.below hb) hG hn hfr)
  simp only [hz] at C4
  obtain ⟨a1, a2, a3, a4⟩ := hS0.rules 0 (g := w.heap.size) (t := 25) rfl
  have HFL := hide (show from_.length = nF by have := hF.1; simpa using this)
  have HFR := hide hfr
  have HFD := hide hF
  clear hz hS0 hfr hG a4 hF
  go_enter Try.func5, Try.ntmps5
  go_wp2_with fail
  refine (C1.out _ HS0.out.below_).mono ?_
  rintro e w1 ⟨A1, n1, c1, h, rfl, hh, hP1⟩
  have HH := hide hh
  have hS1 := sepNewR HS0.out hP1
  obtain ⟨b1, b2, b3, b4⟩ := hS1.rules 0 (g := w.heap.size) (t := 25) rfl
  have HS1 := hide hS1
  clear hP1 HS0 hS1 hh C1 a1 a2 a3 b4
  go_wp2_with fail
  refine (C4.out _ HS1.out.below_).mono ?_
  rintro e w4 ⟨rfl, hb4⟩
  have HS4 := hide (HS1.out.below hb4)
  clear hb4 HS1 C4 b1 b2 b3
  go_wp2_with fail
  go_loopw [7, 8] (fun s7 s8 wr => ∃ (k : Nat), k ≤ nF ∧ s8 = .int .i64 k ∧ s7 = .int .i64 0 ∧ Sep No w wr [blkI w.heap.size 25 #[.slice AO nO cO, .slice AR nR cR], rowI 3 1 A1 n1 c1 (ints (ones 1 h nO))]) (fun _ s _ => nF - (intOf s).toNat)
  case atStart => exact ⟨0, by omega, rfl, rfl, HS4.out⟩
  case round =>
    clear HS4
    obtain ⟨k, hk, rfl, rfl, hS⟩ := hrel
    obtain ⟨x1, x2, x3, x4⟩ := hS.rules 0 (g := w.heap.size) (t := 25) rfl
    have x5 := x1 0
    by_cases hlt : k < nF
    · have hkl : k < from_.length := by rw [HFL.out]; exact hlt
      obtain ⟨ad, hA, _, had, hc⟩ := (HFD.out.below hS.below_).at_ hlt
      have e0 := hc _ (ints_get' from_ k hkl)
      obtain ⟨r0, r1⟩ := HFR.out _ (List.getElem_mem hkl)
      obtain ⟨z, hz⟩ : ∃ z, from_[k] = z := ⟨_, rfl⟩
      rw [hz] at e0 r0 r1
      subst hA
      have HS := hide hS
      have hk0 : (0 : Int) ≤ (k : Int) := by omega
      have hk1 : (k : Int) < (nF : Int) := by omega
      have t1 : decide (z < 0) = false := by simp; omega
      have t2 : decide ((nO : Int) ≤ z) = false := by simp; omega
      clear hc hz hS x1 x4
      go_wp2_with fail
      go_quiet (fail)
      go_wp2_with fail
      go_roundw
      case rel => exact ⟨k + 1, by omega, by go_num, rfl, HS.out.drewN _⟩
      case measure => simp [intOf]; omega
    · obtain rfl : k = nF := by omega
      have HS := hide hS
      clear hS x4
      go_wp2_with fail
      refine (C5.out _ HS.out.below_).mono ?_
      rintro e w6 ⟨A6, n6, c6, p, rfl, hn6, hp, hP6⟩
      have heq : ones 1 h nO = filt p nO := filt_congr (p := fun i => h.getD i 0 == 1) (fun i hi => by
        rw [Bool.eq_iff_iff, hp i hi, ← HH.out i hi]
        simp)
      have hS6 := sepNewR HS.out hP6
      rw [heq] at hS6
      have h1 : (filt p nO).length = n1 := by have := (hS6.rd_ 1 rfl).1; simpa using this
      have h2 : (filt p nO).length = n6 := by have := (hS6.rd_ 2 rfl).1; simpa using this
      obtain rfl : n1 = n6 := by omega
      have C7 := hide (ints_same w6 _ _ A1 A6 n1 c1 c6 _ (by omega) (hS6.rd_ 1 rfl) (hS6.rd_ 2 rfl))
      have HB6 := hide hS6.below_
      clear hP6 hS6 heq hp h1 h2 HS x1 x2 x3 x5 C5
      go_wp2_with fail
      refine C7.out.mono ?_
      rintro e w7 ⟨rfl, hb7⟩
      go_wp2_with fail
      go_ret
      exact ⟨rfl, HB6.out.trans (hb7.mono HB6.out.size)⟩
theorem trialTells_walk (w : World) (AO AR AF : Option Addr) (nO cO nR cR nF cF : Nat) (obs : List Ob) (roots : List Val) (from_ : List Int) (hO : ObsRd w (fun _ => True) AO nO obs) (hR : Rd w (fun _ => True) 2 AR nR (vals roots)) (hF : Rd w (fun _ => True) 1 AF nF (ints from_)) (hnF : nF ≤ 9223372036854775807) :
    Calls Try.prog 5 #[.agg #[.slice AO nO cO, .slice AR nR cR], .slice AF nF cF] w fun e w' => e = .returned (.bool true) ∧ Below w.heap.size w w' := by
  by_cases hz : gcheck nO nR obs roots = 0
  · by_cases hn : nF ≤ 24
    · by_cases hf : Fine nO from_
      · exact trialTells_ok w AO AR AF nO cO nR cR nF cF obs roots from_ hO hR hF hz hn hf
      · exact trialTells_arg w AO AR AF nO cO nR cR nF cF obs roots from_ hO hR hF hz hn hf
    · exact trialTells_large w AO AR AF nO cO nR cR nF cF obs roots hO hR hz (by omega) hnF
  · exact trialTells_no w AO AR AF nO cO nR cR nF cF obs roots hO hR hz hnF
end Go.Proofs.Ytaajkldhnjoicaa
