/- A memory with young and old objects: one more. A memory with young and old objects: a field becomes a value. -/
import Derived.Test.YtjphckfbbiehdaaSGenPlays26
import Derived.Deep.RegionLaw
import Derived.BigQuiet
import Derived.Test.YtjphckfbbiehdaaSGenPlays11
set_option linter.unusedSimpArgs false
set_option linter.unusedVariables false
namespace Go.Proofs.Ytjphckfbbiehdaa
open Go.RowKit Go.Maps
theorem sBo : SliceT Try.prog 63 4 1 1 := SliceT.mk_ Try.underlying63 (z := .bool false) (by kernel_rfl) rfl (by omega)
theorem perm_gn (x b o m : Item) (L : List Item) : ([x, b, o, m] ++ L).Perm ((b :: L) ++ [x, o, m]) := by
  have h1 : ([x, b, o, m] ++ L).Perm ([b, x, o, m] ++ L) := (List.Perm.swap _ _ _)
  refine h1.trans (List.Perm.cons b ?_)
  exact List.perm_append_comm (l₁ := [x, o, m]) (l₂ := L)
theorem gn_gather {F : Nat → Prop} {W w : World} {x b o m : Item} {L : List Item} (h : Sep F W w ([x, b, o, m] ++ L)) : Sep F W w (allI (b :: L) :: [x, o, m]) := Sep.join (l := b :: L) (h.perm (perm_gn x b o m L))
theorem gn_ungather {F : Nat → Prop} {W w : World} {x b o m : Item} {L : List Item} (h : Sep F W w (allI (b :: L) :: [x, o, m])) : Sep F W w ([x, b, o, m] ++ L) := (Sep.split (l := b :: L) h).perm (perm_gn x b o m L).symm
set_option maxRecDepth 100000 in
set_option maxHeartbeats 16000000 in
theorem gnew_any {F : Nat → Prop} {W0 w : World} {Be Bm : Nat} {room : Nat} {t : GnT} (hK : Sep F W0 w (gnK Be Bm (room : Int) t)) (ok : GnOk t.a) (hn : t.oj.ps.length ≤ 500) {n : Nat} (h4 : n ≤ 4) :
    Calls Try.prog 277 #[.pointer (some ⟨Be, 0, none⟩), .int .i64 (n : Int)] w fun e w' => e = .returned (.tuple #[.int .i64 (gnNew room t.a n).2.1, .int .i64 (gnNew room t.a n).2.2]) ∧ ∃ t' : GnT, t'.a = (gnNew room t.a n).1 ∧ t'.N ≤ t.N ∧ Sep F W0 w' (gnK Be Bm (room : Int) t') := by
  have hNl : t.a.objs.length = t.oj.ps.length := List.length_map ..
  have hol : t.old.length = t.oj.ps.length := by have h : t.old.length = t.a.objs.length := ok.ol; omega
  obtain ⟨-, -, -, -, k4, k5, k6⟩ := gn_cells (pre := []) hK
  have C1 := hide (gmany_any (pre := []) hK.drew hol (by omega) false)
  have HCE := hide (fun (X : World) (hb : Below w.heap.size w X) => (⟨(gn_cells (pre := []) (hK.below hb)).2.2.2.2.1, (gn_cells (pre := []) (hK.below hb)).2.2.2.2.2.2⟩ : X.cell? ⟨Be, 4, none⟩ = some (.int .i64 (room : Int)) ∧ Be < X.heap.size))
  have HTAIL := hide (fun (X : World) (t2 : GnT) (hX : Sep F W0 X (gnK Be Bm (room : Int) t2)) (he : t2.a = gnRoom room t.a) => gmany_any (pre := []) hX (by
    have h1 := (ok.room room).ol
    rw [← he] at h1
    have h2 : t2.a.objs.length = t2.oj.ps.length := List.length_map ..
    rw [← h2]; exact h1) (by
    have h1 := gnRoom_len room t.a
    rw [← he] at h1
    have h2 : t2.a.objs.length = t2.oj.ps.length := List.length_map ..
    omega) true)
  have CM := hide (fun (X : World) (hb : Below w.heap.size w X) => gminor_any (hK.below hb) ok (by omega))
  have HNO := hide (show 24 ≤ (gnRoom room t.a).many true → gnNew room t.a n = (gnRoom room t.a, 0, 6) from fun h => by unfold gnNew; rw [if_pos h])
  have HYES := hide (show ¬ 24 ≤ (gnRoom room t.a).many true → gnNew room t.a n = ((gnRoom room t.a).push n, (t.a.objs.length : Int), 0) from fun h => by unfold gnNew; rw [if_neg h])
  have HRL := hide (gnRoom_len room t.a)
  have HRK := hide (ok.room room)
  have HK := hide hK
  have HOK := hide ok
  have HNL := hide hNl
  obtain ⟨q, hq⟩ : ∃ q, t.a.many false = q := ⟨_, rfl⟩
  rw [hq] at C1
  have HQ := hide hq
  have hq6 : q ≤ 600 := by
    rw [← hq, many_cnt]
    have h1 := cntB_le t.old false (thereL t.oj.ps)
    have h2 := thereL_len t.oj.ps
    omega
  clear hK ok hNl hol hq
  by_cases hr : room ≤ q
  · have HRO := hide (show gnRoom room t.a = t.a.minor from by unfold gnRoom; rw [if_pos (by rw [HQ.out]; exact hr)])
    have t1 : decide ((room : Int) ≤ (q : Int)) = true := by simp; omega
    have t2 : decide (room ≤ q) = true := by simp; omega
    go_enter Try.func277, Try.ntmps277
    go_wp2_with fail
    go_region_law (first
      | (try go_simp
         go_at_call 279
         refine C1.out.mono ?_
         rintro e w1 ⟨rfl, hb1⟩
         (have hb2 : Below w.heap.size w w1 := (Below.refl _ w).drew.trans hb1)
         obtain ⟨y1, y2⟩ := HCE.out w1 hb2
         (have HB := hide hb2)
         clear hb1 hb2))
    all_goals
      go_wp2_with fail
      refine (CM.out _ HB.out).mono ?_
      rintro e w2 ⟨⟨u2, rfl⟩, t2, he2, hN2, hS2⟩
      (have HNN := hide hN2)
      clear hN2
      (have he3 : t2.a = gnRoom room t.a := he2.trans HRO.out.symm)
      clear y1 y2 HB he2
      go_wp2_with fail
      (obtain ⟨M, hM⟩ : ∃ M, t2.a.many true = M := ⟨_, rfl⟩)
      (have CT2 := HTAIL.out w2 t2 hS2 he3)
      rw [hM] at CT2
      (have CT2 := hide CT2)
      (have HE3 := hide he3)
      (have HMM := hide hM)
      clear he3 hM
      refine CT2.out.mono ?_
      rintro e w3 ⟨rfl, hb3⟩
      (have hS3 := hS2.below hb3)
      (have hrl : t2.oj.ps.length = t.oj.ps.length := by
        have h1 := HRL.out
        rw [← HE3.out] at h1
        have h2 : t2.a.objs.length = t2.oj.ps.length := List.length_map ..
        have h3 := HNL.out
        omega)
      (have hol2 : t2.old.length = t2.oj.ps.length := by
        have h1 := HRK.out.ol
        rw [← HE3.out] at h1
        have h2 : t2.a.objs.length = t2.oj.ps.length := List.length_map ..
        rw [← h2]; exact h1)
      by_cases h24 : 24 ≤ M
      · have hno := HNO.out (by rw [← HE3.out, HMM.out]; exact h24)
        have HNX := hide hno
        have t3 : decide ((24 : Int) ≤ (M : Int)) = true := by simp; omega
        have HS3 := hide hS3
        clear hS3 hS2 hb3 hno hrl hol2
        go_wp2_with fail
        refine bodyPost_ret (v := .tuple #[.int .i64 0, .int .i64 6]) (by simp [results, Try.results277, go_sem]) rfl ⟨by rw [HNX.out], t2, by rw [HNX.out]; exact HE3.out, HNN.out, HS3.out⟩
      · have hyes := HYES.out (by rw [← HE3.out, HMM.out]; exact h24)
        have HYX := hide hyes
        have t3 : decide ((24 : Int) ≤ (M : Int)) = false := by simp; omega
        have t4 : decide (24 ≤ M) = false := by simp; omega
        have HP2 := hide HE3.out
        have hS3' : Sep F W0 w3 ([gnM Be Bm t2, blkI Be 199 (gnC Bm (room : Int) t2), oldI t2.Ao t2.oc t2.old.length t2.old, gmI t2.b t2.N t2.mks] ++ ojL t2.oj) := hS3
        obtain ⟨c1, c2, c3, -⟩ := hS3'.rules 1 (g := Be) (t := 199) rfl
        have c4 := (c1 2).trans (show _ = some (.slice t2.Ao t2.old.length t2.oc) from rfl)
        have hN2 : t2.old.length ≤ 500 := by omega
        have HFIN := hide (fun (wq : World) (A7 As : Option Addr) (c7 cA B gB : Nat) (hq : Sep F W0 wq ([gnM Be Bm t2, blkI Be 199 (((gnC Bm (room : Int) t2).setIfInBounds 2 (.slice A7 (t2.old.length + 1) c7)).setIfInBounds 0 (t2.oj.new As cA B gB n).v), rowI 4 1 A7 (t2.old.length + 1) c7 (bools t2.old ++ (#[.bool false] : Array Value).toList), gmI t2.b t2.N t2.mks] ++ ojL (t2.oj.new As cA B gB n))) =>
          (show ∃ t' : GnT, t'.a = (gnRoom room t.a).push n ∧ t'.N ≤ t.N ∧ Sep F W0 wq (gnK Be Bm (room : Int) t') from by
            refine ⟨⟨t2.regs, t2.oj.new As cA B gB n, A7, c7, t2.old ++ [false], t2.b, t2.N, t2.mks⟩, ?_, HNN.out, ?_⟩
            · rw [← HP2.out]
              show (⟨t2.regs, (t2.oj.new As cA B gB n).abs, t2.old ++ [false], t2.mks⟩ : GnA) = _
              rw [Oj.abs_new]
              rfl
            · unfold gnK gnR gnC oldI
              dsimp only
              rw [List.length_append, show bools (t2.old ++ [false]) = bools t2.old ++ (#[.bool false] : Array Value).toList from by simp [bools]]
              exact hq))
        have hN3 : t2.oj.ps.length ≤ 500 := by omega
        have HLN := hide (show (t.a.objs.length : Int) = (t2.oj.ps.length : Int) from by have := HNL.out; omega)
        clear hS3 hS2 hb3 hyes c1 hrl hol2
        go_wp2_with (first
          | (at_builtin
             refine wpList_app1 (cs := #[.bool false]) rfl (.tmp 22) (.tmp 23) 63 rfl sBo hS3' 2 (n := t2.old.length) rfl rfl rfl (by simp) rfl rfl (by omega) ?_
             intro A7 c7 w7 hS7 hC7
             obtain ⟨d1, d2, d3, -⟩ := hS7.rules 1 (g := Be) (t := 199) rfl
             (have d4 := (d1 2).trans (show _ = some (.slice t2.Ao t2.old.length t2.oc) from rfl))
             (have hS8 := hS7.set_ 1 (g := Be) (t := 199) rfl 2 (.slice A7 (t2.old.length + 1) c7))
             (have hG := gn_gather (x := gnM Be Bm t2) (b := blkI Be 199 ((gnC Bm (room : Int) t2).setIfInBounds 2 (.slice A7 (t2.old.length + 1) c7))) (o := rowI 4 1 A7 (t2.old.length + 1) c7 (bools t2.old ++ (#[.bool false] : Array Value).toList)) (m := gmI t2.b t2.N t2.mks) (L := ojL t2.oj) hS8)
             (have CN := hide (onew_any ((Sep.start (hG.get 0 rfl)).flat) (s := t2.oj) rfl (by omega) h4))
             (have HG := hide hG)
             clear hS7 hS8 hG hC7 d1))
        refine CN.out.mono ?_
        rintro e w9 ⟨rfl, As, cA, B, gB, hP9⟩
        (obtain ⟨t', he', hN9, hS9⟩ := HFIN.out w9 A7 As c7 cA B gB (gn_ungather (HG.out.call 0 rfl hP9.fold)))
        (have HS9 := hide hS9)
        (have HN9 := hide hN9)
        clear hP9 hS9 hN9 HG CN HFIN d2 d3 d4 c2 c3 c4
        go_wp2_with fail
        refine bodyPost_ret (v := .tuple #[.int .i64 t2.oj.ps.length, .int .i64 0]) (by simp [results, Try.results277, go_sem]) rfl ⟨by rw [HYX.out, HLN.out], t', by rw [HYX.out]; exact he', HN9.out, HS9.out⟩
  · have HRO := hide (show gnRoom room t.a = t.a from by unfold gnRoom; rw [if_neg (by rw [HQ.out]; exact hr)])
    have t1 : decide ((room : Int) ≤ (q : Int)) = false := by simp; omega
    have t2' : decide (room ≤ q) = false := by simp; omega
    go_enter Try.func277, Try.ntmps277
    go_wp2_with fail
    go_region_law (first
      | (try go_simp
         go_at_call 279
         refine C1.out.mono ?_
         rintro e w1 ⟨rfl, hb1⟩
         (have hb2 : Below w.heap.size w w1 := (Below.refl _ w).drew.trans hb1)
         obtain ⟨y1, y2⟩ := HCE.out w1 hb2
         (have HB := hide hb2)
         clear hb1 hb2))
    all_goals
      (obtain ⟨t2, he3, hN2, hS2⟩ : ∃ t2 : GnT, t2.a = gnRoom room t.a ∧ t2.N ≤ t.N ∧ Sep F W0 w1 (gnK Be Bm (room : Int) t2) := ⟨t, HRO.out.symm, Nat.le_refl _, HK.out.below HB.out⟩)
      (have HNN := hide hN2)
      clear hN2
      clear y1 y2 HB
      go_wp2_with fail
      (obtain ⟨M, hM⟩ : ∃ M, t2.a.many true = M := ⟨_, rfl⟩)
      (have CT2 := HTAIL.out w1 t2 hS2 he3)
      rw [hM] at CT2
      (have CT2 := hide CT2)
      (have HE3 := hide he3)
      (have HMM := hide hM)
      clear he3 hM
      refine CT2.out.mono ?_
      rintro e w3 ⟨rfl, hb3⟩
      (have hS3 := hS2.below hb3)
      (have hrl : t2.oj.ps.length = t.oj.ps.length := by
        have h1 := HRL.out
        rw [← HE3.out] at h1
        have h2 : t2.a.objs.length = t2.oj.ps.length := List.length_map ..
        have h3 := HNL.out
        omega)
      (have hol2 : t2.old.length = t2.oj.ps.length := by
        have h1 := HRK.out.ol
        rw [← HE3.out] at h1
        have h2 : t2.a.objs.length = t2.oj.ps.length := List.length_map ..
        rw [← h2]; exact h1)
      by_cases h24 : 24 ≤ M
      · have hno := HNO.out (by rw [← HE3.out, HMM.out]; exact h24)
        have HNX := hide hno
        have t3 : decide ((24 : Int) ≤ (M : Int)) = true := by simp; omega
        have HS3 := hide hS3
        clear hS3 hS2 hb3 hno hrl hol2
        go_wp2_with fail
        refine bodyPost_ret (v := .tuple #[.int .i64 0, .int .i64 6]) (by simp [results, Try.results277, go_sem]) rfl ⟨by rw [HNX.out], t2, by rw [HNX.out]; exact HE3.out, HNN.out, HS3.out⟩
      · have hyes := HYES.out (by rw [← HE3.out, HMM.out]; exact h24)
        have HYX := hide hyes
        have t3 : decide ((24 : Int) ≤ (M : Int)) = false := by simp; omega
        have t4 : decide (24 ≤ M) = false := by simp; omega
        have HP2 := hide HE3.out
        have hS3' : Sep F W0 w3 ([gnM Be Bm t2, blkI Be 199 (gnC Bm (room : Int) t2), oldI t2.Ao t2.oc t2.old.length t2.old, gmI t2.b t2.N t2.mks] ++ ojL t2.oj) := hS3
        obtain ⟨c1, c2, c3, -⟩ := hS3'.rules 1 (g := Be) (t := 199) rfl
        have c4 := (c1 2).trans (show _ = some (.slice t2.Ao t2.old.length t2.oc) from rfl)
        have hN2 : t2.old.length ≤ 500 := by omega
        have HFIN := hide (fun (wq : World) (A7 As : Option Addr) (c7 cA B gB : Nat) (hq : Sep F W0 wq ([gnM Be Bm t2, blkI Be 199 (((gnC Bm (room : Int) t2).setIfInBounds 2 (.slice A7 (t2.old.length + 1) c7)).setIfInBounds 0 (t2.oj.new As cA B gB n).v), rowI 4 1 A7 (t2.old.length + 1) c7 (bools t2.old ++ (#[.bool false] : Array Value).toList), gmI t2.b t2.N t2.mks] ++ ojL (t2.oj.new As cA B gB n))) =>
          (show ∃ t' : GnT, t'.a = (gnRoom room t.a).push n ∧ t'.N ≤ t.N ∧ Sep F W0 wq (gnK Be Bm (room : Int) t') from by
            refine ⟨⟨t2.regs, t2.oj.new As cA B gB n, A7, c7, t2.old ++ [false], t2.b, t2.N, t2.mks⟩, ?_, HNN.out, ?_⟩
            · rw [← HP2.out]
              show (⟨t2.regs, (t2.oj.new As cA B gB n).abs, t2.old ++ [false], t2.mks⟩ : GnA) = _
              rw [Oj.abs_new]
              rfl
            · unfold gnK gnR gnC oldI
              dsimp only
              rw [List.length_append, show bools (t2.old ++ [false]) = bools t2.old ++ (#[.bool false] : Array Value).toList from by simp [bools]]
              exact hq))
        have hN3 : t2.oj.ps.length ≤ 500 := by omega
        have HLN := hide (show (t.a.objs.length : Int) = (t2.oj.ps.length : Int) from by have := HNL.out; omega)
        clear hS3 hS2 hb3 hyes c1 hrl hol2
        go_wp2_with (first
          | (at_builtin
             refine wpList_app1 (cs := #[.bool false]) rfl (.tmp 22) (.tmp 23) 63 rfl sBo hS3' 2 (n := t2.old.length) rfl rfl rfl (by simp) rfl rfl (by omega) ?_
             intro A7 c7 w7 hS7 hC7
             obtain ⟨d1, d2, d3, -⟩ := hS7.rules 1 (g := Be) (t := 199) rfl
             (have d4 := (d1 2).trans (show _ = some (.slice t2.Ao t2.old.length t2.oc) from rfl))
             (have hS8 := hS7.set_ 1 (g := Be) (t := 199) rfl 2 (.slice A7 (t2.old.length + 1) c7))
             (have hG := gn_gather (x := gnM Be Bm t2) (b := blkI Be 199 ((gnC Bm (room : Int) t2).setIfInBounds 2 (.slice A7 (t2.old.length + 1) c7))) (o := rowI 4 1 A7 (t2.old.length + 1) c7 (bools t2.old ++ (#[.bool false] : Array Value).toList)) (m := gmI t2.b t2.N t2.mks) (L := ojL t2.oj) hS8)
             (have CN := hide (onew_any ((Sep.start (hG.get 0 rfl)).flat) (s := t2.oj) rfl (by omega) h4))
             (have HG := hide hG)
             clear hS7 hS8 hG hC7 d1))
        refine CN.out.mono ?_
        rintro e w9 ⟨rfl, As, cA, B, gB, hP9⟩
        (obtain ⟨t', he', hN9, hS9⟩ := HFIN.out w9 A7 As c7 cA B gB (gn_ungather (HG.out.call 0 rfl hP9.fold)))
        (have HS9 := hide hS9)
        (have HN9 := hide hN9)
        clear hP9 hS9 hN9 HG CN HFIN d2 d3 d4 c2 c3 c4
        go_wp2_with fail
        refine bodyPost_ret (v := .tuple #[.int .i64 t2.oj.ps.length, .int .i64 0]) (by simp [results, Try.results277, go_sem]) rfl ⟨by rw [HYX.out, HLN.out], t', by rw [HYX.out]; exact he', HN9.out, HS9.out⟩
end Go.Proofs.Ytjphckfbbiehdaa

namespace Go.Proofs.Ytjphckfbbiehdaa
open Go.RowKit Go.Maps
theorem gput_gather {F : Nat → Prop} {W w : World} {x b o m z : Item} {L : List Item} (h : Sep F W w ([x, b, o, m] ++ L ++ [z])) : Sep F W w (allI L :: [z, x, b, o, m]) :=
  Sep.join (l := L) (h.perm (by
    rw [List.append_assoc]
    refine List.perm_append_comm.trans ?_
    rw [List.append_assoc]
    exact List.Perm.refl _))
theorem gput_ungather {F : Nat → Prop} {W w : World} {l L : List Item} (h : Sep F W w (allI L :: l)) : Sep F W w (l ++ L) := (Sep.split h).perm List.perm_append_comm
set_option maxRecDepth 100000 in
set_option maxHeartbeats 16000000 in
theorem gput_any {F : Nat → Prop} {W0 w : World} {Be Bm : Nat} {room : Nat} {t : GnT} (hK : Sep F W0 w (gnK Be Bm (room : Int) t)) (ok : GnOk t.a) (hn : t.oj.ps.length ≤ 600) (hN : t.N ≤ 100000) {i k : Nat} {fs : List Val} (v : Val) (hf : t.a.fld i = some fs) (hk : k < fs.length) (hv : t.a.vok v) :
    Calls Try.prog 278 #[.pointer (some ⟨Be, 0, none⟩), .int .i64 (i : Int), .int .i64 (k : Int), .agg #[.bool v.1, .int .i64 v.2]] w fun e w' => (∃ u, e = .returned u) ∧ ∃ t' : GnT, t'.a = gnPut t.a i k v ∧ t'.N ≤ t.N + 1 ∧ Sep F W0 w' (gnK Be Bm (room : Int) t') := by
  have hNl : t.a.objs.length = t.oj.ps.length := List.length_map ..
  have hol : t.old.length = t.oj.ps.length := by have h : t.old.length = t.a.objs.length := ok.ol; omega
  obtain ⟨p, hp, hpf⟩ := ojF_at hf
  obtain ⟨g, hg⟩ : ∃ g, w.heap.size = g := ⟨_, rfl⟩
  have hK1 := hK.blkAt 107 #[.bool v.1, .int .i64 v.2] hg
  have hG := gput_gather (x := gnM Be Bm t) (b := blkI Be 199 (gnC Bm (room : Int) t)) (o := oldI t.Ao t.oc t.old.length t.old) (m := gmI t.b t.N t.mks) (L := ojL t.oj) (z := blkI g 107 #[.bool v.1, .int .i64 v.2]) hK1
  obtain ⟨W1, hW1⟩ : ∃ W1, w.alloc (.cells #[.bool v.1, .int .i64 v.2] 107) = W1 := ⟨_, rfl⟩
  rw [hW1] at hG
  obtain ⟨c1, c2, c3, -⟩ := hG.rules 3 (g := Be) (t := 199) rfl
  have c4 := (c1 0).trans (show _ = some t.oj.v from rfl)
  obtain ⟨b1, b2, b3, -⟩ := hG.rules 1 (g := g) (t := 107) rfl
  have b4 := (b1 0).trans (show _ = some (.bool v.1) from rfl)
  have b5 := (b1 1).trans (show _ = some (.int .i64 v.2) from rfl)
  have hf4 := ok.f4 i fs hf
  have C := hide (oput_any (hG.drew.get 0 rfl) (by omega) v hp (by rw [hpf]; exact hk) (by rw [hpf]; exact hf4))
  have hil : i < t.old.length := by rw [hol]; exact (List.getElem?_eq_some_iff.1 hp).1
  have HZ := hide (show ZOk (gz (i, k)) from gz_ok (by omega) (by dsimp only; omega))
  have HVJ := hide (show v.1 = true → ∃ j : Nat, v.2 = (j : Int) ∧ j < t.old.length from fun h => by
    obtain ⟨j, gs, e, hj⟩ := hv h
    have := GnA.fld_lt hj
    exact ⟨j, e, by omega⟩)
  have HPF := hide hpf
  have HFLD := hide hf
  have HG := hide hG
  have HW1 := hide hW1
  have HGG := hide hg
  have hmx : Try.prog.follows .mixedOrders = true := by kernel_rfl
  obtain ⟨bv, mv⟩ := v
  dsimp only at b4 b5 HVJ HG HW1 C ⊢
  clear hK hK1 hG hW1 hg c1 b1 ok hf hk hv hp hpf
  go_enter Try.func278, Try.ntmps278
  go_wp2_with fail
  rw [HW1.out, HGG.out]
  go_still_tail 7, hmx
  go_wp2_with fail
  refine C.out.mono ?_
  rintro e w2 ⟨⟨u2, rfl⟩, hP2⟩
  have hS2 := gput_ungather (HG.out.drew.call 0 rfl hP2)
  obtain ⟨c1, c2, c3, -⟩ := hS2.rules 2 (g := Be) (t := 199) rfl
  have c4 := (c1 2).trans (show _ = some (.slice t.Ao t.old.length t.oc) from rfl)
  have c5 := (c1 3).trans (show _ = some (.map (some t.b)) from rfl)
  obtain ⟨d1, d2, d3, -⟩ := hS2.rules 0 (g := g) (t := 107) rfl
  have d4 := (d1 0).trans (show _ = some (.bool bv) from rfl)
  have d5 := (d1 1).trans (show _ = some (.int .i64 mv) from rfl)
  obtain ⟨go, hgo⟩ := old_some hS2 (k := 3) rfl (by omega)
  have hrow := hS2.get 3 rfl
  unfold oldI at hrow
  rw [hgo] at hrow c4
  obtain ⟨f1, f2⟩ := bo_cell hrow i hil
  obtain ⟨y, hy⟩ : ∃ y, bt t.old i = y := ⟨_, rfl⟩
  rw [show t.old.getD i false = y from hy] at f1
  have HY := hide hy
  have HFIN := hide (fun (X : World) (N' : Nat) (mks' : List Gp) (hm : mks' = (gnPut t.a i k (bv, mv)).mks) (hN' : N' ≤ t.N + 1) (hX : Sep F W0 X ([blkI g 107 #[.bool bv, .int .i64 mv], gnM Be Bm t, blkI Be 199 (gnC Bm (room : Int) t), oldI t.Ao t.oc t.old.length t.old, gmI t.b N' mks'] ++ ojL (t.oj.put i k (bv, mv) p))) =>
    (show ∃ t' : GnT, t'.a = gnPut t.a i k (bv, mv) ∧ t'.N ≤ t.N + 1 ∧ Sep F W0 X (gnK Be Bm (room : Int) t') from by
      refine ⟨⟨t.regs, t.oj.put i k (bv, mv) p, t.Ao, t.oc, t.old, t.b, N', mks'⟩, ?_, hN', ?_⟩
      · show (⟨t.regs, (t.oj.put i k (bv, mv) p).abs, t.old, mks'⟩ : GnA) = _
        rw [oj_put_abs, hm, HPF.out]
        unfold gnPut
        rw [HFLD.out]
        rfl
      · have e1 : gnC Bm (room : Int) ⟨t.regs, t.oj.put i k (bv, mv) p, t.Ao, t.oc, t.old, t.b, N', mks'⟩ = gnC Bm (room : Int) t := by
          unfold gnC Oj.v Oj.put
          dsimp only
          rw [List.length_set]
        unfold gnK gnR
        rw [e1]
        exact hX.sub (List.sublist_cons_self ..)))
  have HS2 := hide hS2
  have t1 : (i : Int) < (t.old.length : Int) := by omega
  obtain ⟨NO, hNO⟩ : ∃ NO, t.old.length = NO := ⟨_, rfl⟩
  rw [hNO] at c4 hil t1 HVJ hrow
  clear hS2 hP2 C HG c1 d1 hy
  cases y with
  | false =>
    have HMK := hide (show t.mks = (gnPut t.a i k (bv, mv)).mks from by
      unfold gnPut
      rw [show t.a.od i = false from HY.out]
      rfl)
    go_wp2_with fail
    go_quiet (fail)
    go_wp2_with fail
    go_end0
    exact ⟨⟨_, rfl⟩, HFIN.out _ t.N t.mks HMK.out (Nat.le_succ _) (HS2.out.drewN _)⟩
  | true =>
    cases bv with
    | false =>
      have HMK := hide (show t.mks = (gnPut t.a i k (false, mv)).mks from by
        unfold gnPut
        dsimp only
        rw [Bool.and_false, Bool.false_and]
        rfl)
      go_wp2_with fail
      go_quiet (fail)
      go_wp2_with fail
      go_end0
      exact ⟨⟨_, rfl⟩, HFIN.out _ t.N t.mks HMK.out (Nat.le_succ _) (HS2.out.drewN _)⟩
    | true =>
      obtain ⟨j, rfl, hj⟩ := HVJ.out rfl
      obtain ⟨q1, q2⟩ := bo_cell hrow j hj
      obtain ⟨y2, hy2⟩ : ∃ y, bt t.old j = y := ⟨_, rfl⟩
      rw [show t.old.getD j false = y2 from hy2] at q1
      have t2 : (j : Int) < (NO : Int) := by omega
      have HY2 := hide hy2
      clear hy2
      cases y2 with
      | true =>
        have HMK := hide (show t.mks = (gnPut t.a i k (true, (j : Int))).mks from by
          unfold gnPut
          dsimp only
          rw [Int.toNat_natCast, show t.a.od j = true from HY2.out, Bool.not_true, Bool.and_false]
          rfl)
        go_wp2_with fail
        go_quiet (fail)
        go_wp2_with fail
        go_end0
        exact ⟨⟨_, rfl⟩, HFIN.out _ t.N t.mks HMK.out (Nat.le_succ _) (HS2.out.drewN _)⟩
      | false =>
        have HMK := hide (show insF (i, k) t.mks = (gnPut t.a i k (true, (j : Int))).mks from by
          unfold gnPut
          dsimp only
          rw [Int.toNat_natCast, show t.a.od j = false from HY2.out, show t.a.od i = true from HY.out]
          rfl)
        go_wp2_with fail
        go_quiet (fail)
        go_wp2_with (first
          | (refine wpList_gmPut rfl (.tmp 41) (.tmp 44) (.const (.int .i64 1)) rfl (HS2.out.drewN _) 4 rfl (by unfold maxLen; omega) (i, k) rfl rfl rfl HZ.out (insF (i, k) t.mks) (fun q => mem_insF) ?_
             intro w7 hS7
             (have HS7 := hide hS7)
             clear hS7))
        go_end0
        exact ⟨⟨_, rfl⟩, HFIN.out _ (t.N + 1) _ HMK.out (Nat.le_refl _) HS7.out⟩
end Go.Proofs.Ytjphckfbbiehdaa
