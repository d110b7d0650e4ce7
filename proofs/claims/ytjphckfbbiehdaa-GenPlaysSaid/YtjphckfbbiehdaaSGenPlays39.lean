/- The reference of a memory with young and old objects: a field is remembered. -/
import Derived.Test.YtjphckfbbiehdaaSGenPlays38
import Derived.Test.YtjphckfbbiehdaaSGenPlays31
set_option linter.unusedSimpArgs false
set_option linter.unusedVariables false
namespace Go.Proofs.Ytjphckfbbiehdaa
open Go.RowKit
theorem neq_cnt2 (w : World) (c n c' n' : Int) : (binOp .neq 174 (.agg #[.int .i64 c, .int .i64 n]) (.agg #[.int .i64 c', .int .i64 n'])).run Try.prog w = .ok (.bool (!(decide (c = c') && decide (n = n')))) w := by
  have h1 : Try.prog.underlying 174 = some (.struct (Try.prog.fieldsOf 174)) := by kernel_rfl
  have h2 : Try.prog.stoodInHeld 174 = false := by kernel_rfl
  obtain ⟨F, hF⟩ : ∃ F, (Try.prog.fieldsOf 174).toList = F := ⟨_, rfl⟩
  have h5 : F = [F[0]!, F[1]!] := by rw [← hF]; kernel_rfl
  have n1 : (F[0]!).name ≠ "_" := by rw [← hF]; rw [show ((Try.prog.fieldsOf 174).toList[0]!).name = "Object" from by kernel_rfl]; decide
  have n2 : (F[1]!).name ≠ "_" := by rw [← hF]; rw [show ((Try.prog.fieldsOf 174).toList[1]!).name = "N" from by kernel_rfl]; decide
  obtain ⟨t0, ht0⟩ : ∃ t, (F[0]!).type = t := ⟨_, rfl⟩
  obtain ⟨t1, ht1⟩ : ∃ t, (F[1]!).type = t := ⟨_, rfl⟩
  have u0 : ∃ k, Try.prog.underlying t0 = some (.int k) := by rw [← ht0, ← hF]; exact ⟨.i64, by kernel_rfl⟩
  have u1 : ∃ k, Try.prog.underlying t1 = some (.int k) := by rw [← ht1, ← hF]; exact ⟨.i64, by kernel_rfl⟩
  have o0 : ∀ x y, (part t0 #[x, y] (F[0]!).offset).run Try.prog w = .ok x w := fun x y => by rw [← ht0, ← hF]; kernel_rfl
  have o1 : ∀ x y, (part t1 #[x, y] (F[1]!).offset).run Try.prog w = .ok y w := fun x y => by rw [← ht1, ← hF]; kernel_rfl
  rw [run_neq_struct, run_equalIn_agg _ _ _ _ _ h1 h2, hF, h5]
  obtain ⟨k0, u0⟩ := u0
  obtain ⟨k1, u1⟩ := u1
  simp only [Op.eqFields, ht0, ht1, n1, n2, ne_eq, not_false_iff, if_true, Sem.run_ite, Sem.run_bind, o0, o1, Result.andThen_ok, run_equalIn_int w _ _ _ _ _ _ u0, run_equalIn_int w _ _ _ _ _ _ u1]
  by_cases e1 : c = c' <;> by_cases e2 : n = n' <;> simp [e1, e2]
theorem nneq (x f : Gp) : (!(decide ((x.1 : Int) = (f.1 : Int)) && decide ((x.2 : Int) = (f.2 : Int)))) = decide (x ≠ f) := by
  obtain ⟨a, b⟩ := x
  obtain ⟨c, d⟩ := f
  by_cases e1 : a = c <;> by_cases e2 : b = d
  · simp [e1, e2]
  · simp [e1, e2]; omega
  · simp [e1, e2]; omega
  · simp [e1, e2]; omega
theorem sCnt : SliceT Try.prog 71 174 2 16 := SliceT.mk_ Try.underlying71 (z := .agg #[.int .i64 0, .int .i64 0]) (by kernel_rfl) rfl (by omega)
theorem ga_newM {F : Nat → Prop} {W w : World} {Ba Bm : Nat} {t : GaT} {L : List Item} {A : Option Addr} {m c : Nat} {l : List Gp} (h : Sep F W w (gaL Ba Bm t ++ rowI 174 2 A m c (gpsV l) :: L)) (hm : l.length = m) :
    Sep F W (w.setCell ⟨Ba, 2, none⟩ (.slice A m c)) [gaI Ba Bm { t with Am := A, cm := c, mks := l }] := by
  subst hm
  have h1 := h.set_ 0 (g := Ba) (t := 205) (cs := gaC Bm t) rfl 2 (.slice A l.length c)
  have h2 := h1.sub (l := [blkI Ba 205 #[.pointer (some ⟨Bm, 0, none⟩), .slice t.Ao t.old.length t.oc, .slice A l.length c], rowI 4 1 t.Ao t.old.length t.oc (bools t.old), rmI Bm t.s, rowI 174 2 A l.length c (gpsV l)]) (by
    refine List.Sublist.cons_cons _ (List.Sublist.cons_cons _ (List.Sublist.cons _ (List.Sublist.cons_cons _ (List.Sublist.cons_cons _ (List.nil_sublist _)))))) 
  exact ga_fold (t := { t with Am := A, cm := c, mks := l }) (h2.perm (((List.Perm.swap _ _ _).cons _).cons _))
set_option maxRecDepth 100000 in
set_option maxHeartbeats 64000000 in
theorem garemember_any {Ba Bm : Nat} {t : GaT} {w : World} (hP : (gaI Ba Bm t).P w) (f : Gp) (hs : t.mks.Pairwise ltP) (hn : t.mks.length ≤ 1000) :
    Calls Try.prog 154 #[.pointer (some ⟨Ba, 0, none⟩), .agg #[.int .i64 (f.1 : Int), .int .i64 (f.2 : Int)]] w fun e w' => (∃ u, e = .returned u) ∧ ∃ (A : Option Addr) (c : Nat), Sep (gaI Ba Bm t).fp w w' [gaI Ba Bm { t with Am := A, cm := c, mks := insF f t.mks }] := by
  obtain ⟨gF, hgF⟩ : ∃ g, w.heap.size = g := ⟨_, rfl⟩
  have hS0 := ((Sep.start hP).blkAt 174 #[.int .i64 (f.1 : Int), .int .i64 (f.2 : Int)] hgF).nilRow0 174 2
  have HS0 := hide hS0
  obtain ⟨c0, c1, c2, -, c4, -, c6, -⟩ := ga_cells hP
  obtain ⟨f1, f2, f3, -⟩ := hS0.rules 2 (g := gF) (t := 174) rfl
  have HMRK := hide (fun (X : World) (hP : (gaI Ba Bm t).P X) k (hk : k < t.mks.length) => ga_mark hP hk)
  have HSU := hide (fun k (hk : k < t.mks.length) => remK_succ f t.mks hk)
  have HLE := hide (fun k (hk : k ≤ t.mks.length) => remK_len2 f t.mks hk)
  have HALL := hide (remK_all (f := f) hs)
  obtain ⟨M, hM⟩ : ∃ n, t.mks.length = n := ⟨_, rfl⟩
  rw [hM] at c2 HLE HALL hn
  have HML := hide hM
  have hgd := guard_cnt
  obtain ⟨Am, hAm0⟩ : ∃ x, t.Am = x := ⟨_, rfl⟩
  rw [hAm0] at c2 HMRK
  have HGF := hide hgF
  clear hP hs hM hS0 hAm0 hgF
  go_enter Try.func154, Try.ntmps154
  go_wp2_with fail
  rw [HGF.out]
  go_loopw [4, 5, 13] (fun l p i wr => ∃ (k m : Nat) (A : Option Addr) (c : Nat), k ≤ M ∧ Hid (m = (remK f t.mks k).1.length) ∧ i = .int .i64 k ∧ l = .slice A m c ∧ p = .bool (remK f t.mks k).2 ∧ Sep (gaI Ba Bm t).fp w wr [rowI 174 2 A m c (gpsV (remK f t.mks k).1), gaI Ba Bm t, blkI gF 174 #[.int .i64 (f.1 : Int), .int .i64 (f.2 : Int)]]) (fun _ _ i _ => M - (intOf i).toNat)
  case atStart => exact ⟨0, 0, none, 0, by omega, hide rfl, rfl, rfl, rfl, HS0.out⟩
  case round =>
    clear HS0 c0 c2 c4 c6 f1 f2 f3
    obtain ⟨k, m, A, c, hk, HMK, rfl, rfl, rfl, hS⟩ := hrel
    have hmk : m ≤ k + 1 := by have := HLE.out k hk; rw [HMK.out]; exact this
    by_cases hlt : k < M
    · have hkm : k < t.mks.length := by rw [HML.out]; exact hlt
      obtain ⟨ad, hAm, e0, e1, e2⟩ := HMRK.out _ (hS.get 1 rfl) k hkm
      have HSK := hide (HSU.out k hkm)
      obtain ⟨x, hx⟩ : ∃ x, t.mks[k] = x := ⟨_, rfl⟩
      rw [hx] at e0 e1 HSK
      obtain ⟨⟨ls, pb⟩, hs⟩ : ∃ s, remK f t.mks k = s := ⟨_, rfl⟩
      rw [hs] at hS HSK HMK ⊢
      dsimp only at hS HMK ⊢
      obtain ⟨gx, hgx⟩ : ∃ g, wr.heap.size = g := ⟨_, rfl⟩
      have hS2 := hS.blkAt 174 #[.int .i64 (x.1 : Int), .int .i64 (x.2 : Int)] hgx
      obtain ⟨W5, hW5⟩ : ∃ W, wr.alloc (.cells #[.int .i64 (x.1 : Int), .int .i64 (x.2 : Int)] 174) = W := ⟨_, rfl⟩
      rw [hW5] at hS2
      obtain ⟨f1, f2, f3, -⟩ := hS2.rules 2 (g := gF) (t := 174) rfl
      obtain ⟨y1, y2, y3, -⟩ := hS2.rules 3 (g := gx) (t := 174) rfl
      have y5 := (y1 0).trans (show _ = some (.int .i64 (x.1 : Int)) from rfl)
      have y6 := (y1 1).trans (show _ = some (.int .i64 (x.2 : Int)) from rfl)
      have f5 := (f1 0).trans (show _ = some (.int .i64 (f.1 : Int)) from rfl)
      have f6 := (f1 1).trans (show _ = some (.int .i64 (f.2 : Int)) from rfl)
      have hng := fun X => (neq_cnt2 X (x.1 : Int) (x.2 : Int) (f.1 : Int) (f.2 : Int))
      rw [nneq] at hng
      obtain ⟨fa, fb⟩ := f
      obtain ⟨xa, xb⟩ := x
      dsimp only at e0 e1 f5 f6 y5 y6 hS hS2 hng hW5
      have HW5 := hide hW5
      have HS2 := hide hS2
      have HGX := hide hgx
      have neF : gF ≠ gx := by have := hS.hi 2 rfl gF rfl; omega
      have neG : gx ≠ gF := fun e => neF e.symm
      have t0 : (k : Int) < (M : Int) := by omega
      clear hS hS2 f1 y1 hs hx hgx hW5
      subst hAm
      cases pb with
      | true =>
        by_cases hxf : fa = xa ∧ fb = xb
        · obtain ⟨h1, h2⟩ := hxf
          subst h1
          subst h2
          have HE := hide (show remK (fa, fb) t.mks (k + 1) = (ls, true) from by rw [HSK.out]; unfold remS lePB; simp)
          have hn1 : decide ((fa, fb) ≠ (fa, fb)) = false := by simp; try omega
          rw [hn1] at hng
          clear HSK hn1 
          go_upto_region 6 with fail
          rw [HW5.out, HGX.out]
          go_wp2_with fail
          have HS9 := hide (HS2.out.sub (l := [_, _, _]) (List.sublist_append_left [_, _, _] [_]))
          go_roundw
          case rel => exact ⟨k + 1, m, A, c, by omega, hide (by rw [HE.out]; simp [HMK.out]), by go_num, rfl, by rw [HE.out], by
            rw [HE.out]
            dsimp only
            exact HS9.out⟩
          case measure => simp [intOf]; omega
        · have hxf2 : ¬ ((xa, xb) : Gp) = (fa, fb) := fun e => hxf ⟨(congrArg Prod.fst e).symm, (congrArg Prod.snd e).symm⟩
          have HE := hide (show remK (fa, fb) t.mks (k + 1) = (ls ++ [(xa, xb)], true) from by rw [HSK.out]; unfold remS lePB; simp [hxf2])
          have hn1 : decide ((xa, xb) ≠ (fa, fb)) = true := by simp [hxf2]; try omega
          rw [hn1] at hng
          clear HSK hn1 
          go_upto_region 6 with fail
          rw [HW5.out, HGX.out]
          go_wp2_with (first
            | (at_builtin
               refine wpList_app1 (cs := #[.int .i64 (xa : Int), .int .i64 (xb : Int)]) rfl (.tmp 47) (.tmp 49) 71 rfl (F := (gaI Ba Bm t).fp) (W := w) sCnt (items := _ :: _ :: _ :: _ :: _) HS2.out 0 (n := m) rfl rfl rfl (by simp) rfl rfl (by omega) ?_
               intro A7 c7 w7 hS7 hC
               clear hC))
          have HS9 := hide (hS7.sub (l := [_, _, _]) (List.sublist_append_left [_, _, _] [_]))
          clear hS7
          go_roundw
          case rel => exact ⟨k + 1, m + 1, A7, c7, by omega, hide (by rw [HE.out]; simp [HMK.out]), by go_num, rfl, by rw [HE.out], by
            rw [HE.out]
            dsimp only
            rw [gpsV_app]
            exact HS9.out⟩
          case measure => simp [intOf]; omega
      | false =>
        rcases Nat.lt_trichotomy fa xa with h1 | h1 | h1
        · have hxf2 : ¬ ((xa, xb) : Gp) = (fa, fb) := fun e => by have := congrArg Prod.fst e; dsimp only at this; omega
          have t1 : decide ((fa : Int) < (xa : Int)) = true := by simp; omega
          have HE := hide (show remK (fa, fb) t.mks (k + 1) = (ls ++ [(fa, fb)] ++ [(xa, xb)], true) from by rw [HSK.out]; unfold remS lePB; simp [hxf2, h1])
          have hn1 : decide ((xa, xb) ≠ (fa, fb)) = true := by simp [hxf2, h1]; try omega
          rw [hn1] at hng
          clear HSK hn1 
          go_upto_region 6 with fail
          rw [HW5.out, HGX.out]
          go_wp2_with (first
            | (at_builtin
               refine wpList_app1 (cs := #[.int .i64 (fa : Int), .int .i64 (fb : Int)]) rfl (.tmp 40) (.tmp 42) 71 rfl (F := (gaI Ba Bm t).fp) (W := w) sCnt (items := _ :: _ :: _ :: _ :: _) HS2.out 0 (n := m) rfl rfl rfl (by simp) rfl rfl (by omega) ?_
               intro A6 c6 w6 hS6 hC
               obtain ⟨l1, l2, l3, -⟩ := hS6.rules 2 (g := gF) (t := 174) rfl
               (have l5 := (l1 0).trans (show _ = some (.int .i64 (fa : Int)) from rfl))
               (have l6 := (l1 1).trans (show _ = some (.int .i64 (fb : Int)) from rfl))
               obtain ⟨o1, o2, o3, -⟩ := hS6.rules 3 (g := gx) (t := 174) rfl
               (have o5 := (o1 0).trans (show _ = some (.int .i64 (xa : Int)) from rfl))
               (have o6 := (o1 1).trans (show _ = some (.int .i64 (xb : Int)) from rfl))
               clear hC l1 o1)
            | (at_builtin
               refine wpList_app1 (cs := #[.int .i64 (xa : Int), .int .i64 (xb : Int)]) rfl (.tmp 47) (.tmp 49) 71 rfl (F := (gaI Ba Bm t).fp) (W := w) sCnt (items := _ :: _ :: _ :: _ :: _) hS6 0 (n := m + 1) rfl rfl rfl (by simp) rfl rfl (by omega) ?_
               intro A7 c7 w7 hS7 hC
               clear hC))
          have HS9 := hide (hS7.sub (l := [_, _, _]) (List.sublist_append_left [_, _, _] [_]))
          clear hS6 hS7
          go_roundw
          case rel => exact ⟨k + 1, m + 2, A7, c7, by omega, hide (by rw [HE.out]; simp [HMK.out]), by go_num, rfl, by rw [HE.out], by
            rw [HE.out]
            dsimp only
            rw [gpsV_app, gpsV_app]
            exact HS9.out⟩
          case measure => simp [intOf]; omega
        · subst h1
          have t1 : decide ((fa : Int) < (fa : Int)) = false := by simp
          have t2 : ((fa : Int) == (fa : Int)) = true := by simp
          rcases Nat.lt_trichotomy fb xb with h2 | h2 | h2
          · have hxf2 : ¬ ((fa, xb) : Gp) = (fa, fb) := fun e => by have := congrArg Prod.snd e; dsimp only at this; omega
            have h3 : fb ≤ xb := by omega
            have t3 : decide ((fb : Int) ≤ (xb : Int)) = true := by simp; omega
            have HE := hide (show remK (fa, fb) t.mks (k + 1) = (ls ++ [(fa, fb)] ++ [(fa, xb)], true) from by rw [HSK.out]; unfold remS lePB; simp [hxf2, h3])
            have hn1 : decide ((fa, xb) ≠ (fa, fb)) = true := by simp [hxf2, h3]; try omega
            rw [hn1] at hng
            clear HSK hn1 
            go_upto_region 6 with fail
            rw [HW5.out, HGX.out]
            go_wp2_with (first
              | (at_builtin
                 refine wpList_app1 (cs := #[.int .i64 (fa : Int), .int .i64 (fb : Int)]) rfl (.tmp 40) (.tmp 42) 71 rfl (F := (gaI Ba Bm t).fp) (W := w) sCnt (items := _ :: _ :: _ :: _ :: _) HS2.out 0 (n := m) rfl rfl rfl (by simp) rfl rfl (by omega) ?_
                 intro A6 c6 w6 hS6 hC
                 obtain ⟨l1, l2, l3, -⟩ := hS6.rules 2 (g := gF) (t := 174) rfl
                 (have l5 := (l1 0).trans (show _ = some (.int .i64 (fa : Int)) from rfl))
                 (have l6 := (l1 1).trans (show _ = some (.int .i64 (fb : Int)) from rfl))
                 obtain ⟨o1, o2, o3, -⟩ := hS6.rules 3 (g := gx) (t := 174) rfl
                 (have o5 := (o1 0).trans (show _ = some (.int .i64 (fa : Int)) from rfl))
                 (have o6 := (o1 1).trans (show _ = some (.int .i64 (xb : Int)) from rfl))
                 clear hC l1 o1)
              | (at_builtin
                 refine wpList_app1 (cs := #[.int .i64 (fa : Int), .int .i64 (xb : Int)]) rfl (.tmp 47) (.tmp 49) 71 rfl (F := (gaI Ba Bm t).fp) (W := w) sCnt (items := _ :: _ :: _ :: _ :: _) hS6 0 (n := m + 1) rfl rfl rfl (by simp) rfl rfl (by omega) ?_
                 intro A7 c7 w7 hS7 hC
                 clear hC))
            have HS9 := hide (hS7.sub (l := [_, _, _]) (List.sublist_append_left [_, _, _] [_]))
            clear hS6 hS7
            go_roundw
            case rel => exact ⟨k + 1, m + 2, A7, c7, by omega, hide (by rw [HE.out]; simp [HMK.out]), by go_num, rfl, by rw [HE.out], by
              rw [HE.out]
              dsimp only
              rw [gpsV_app, gpsV_app]
              exact HS9.out⟩
            case measure => simp [intOf]; omega
          · subst h2
            have t3 : decide ((fb : Int) ≤ (fb : Int)) = true := by simp
            have HE := hide (show remK (fa, fb) t.mks (k + 1) = (ls ++ [(fa, fb)], true) from by rw [HSK.out]; unfold remS lePB; simp)
            have hn1 : decide ((fa, fb) ≠ (fa, fb)) = false := by simp; try omega
            rw [hn1] at hng
            clear HSK hn1 
            go_upto_region 6 with fail
            rw [HW5.out, HGX.out]
            go_wp2_with (first
              | (at_builtin
                 refine wpList_app1 (cs := #[.int .i64 (fa : Int), .int .i64 (fb : Int)]) rfl (.tmp 40) (.tmp 42) 71 rfl (F := (gaI Ba Bm t).fp) (W := w) sCnt (items := _ :: _ :: _ :: _ :: _) HS2.out 0 (n := m) rfl rfl rfl (by simp) rfl rfl (by omega) ?_
                 intro A6 c6 w6 hS6 hC
                 obtain ⟨l1, l2, l3, -⟩ := hS6.rules 2 (g := gF) (t := 174) rfl
                 (have l5 := (l1 0).trans (show _ = some (.int .i64 (fa : Int)) from rfl))
                 (have l6 := (l1 1).trans (show _ = some (.int .i64 (fb : Int)) from rfl))
                 obtain ⟨o1, o2, o3, -⟩ := hS6.rules 3 (g := gx) (t := 174) rfl
                 (have o5 := (o1 0).trans (show _ = some (.int .i64 (fa : Int)) from rfl))
                 (have o6 := (o1 1).trans (show _ = some (.int .i64 (fb : Int)) from rfl))
                 clear hC l1 o1))
            have HS9 := hide (hS6.sub (l := [_, _, _]) (List.sublist_append_left [_, _, _] [_]))
            clear hS6
            go_roundw
            case rel => exact ⟨k + 1, m + 1, A6, c6, by omega, hide (by rw [HE.out]; simp [HMK.out]), by go_num, rfl, by rw [HE.out], by
              rw [HE.out]
              dsimp only
              rw [gpsV_app]
              exact HS9.out⟩
            case measure => simp [intOf]; omega
          · have hxf2 : ¬ ((fa, xb) : Gp) = (fa, fb) := fun e => by have := congrArg Prod.snd e; dsimp only at this; omega
            have h3 : ¬ fb ≤ xb := by omega
            have t3 : decide ((fb : Int) ≤ (xb : Int)) = false := by simp; omega
            have HE := hide (show remK (fa, fb) t.mks (k + 1) = (ls ++ [(fa, xb)], false) from by rw [HSK.out]; unfold remS lePB; simp [hxf2, h3])
            have hn1 : decide ((fa, xb) ≠ (fa, fb)) = true := by simp [hxf2, h3]; try omega
            rw [hn1] at hng
            clear HSK hn1 
            go_upto_region 6 with fail
            rw [HW5.out, HGX.out]
            go_wp2_with (first
              | (at_builtin
                 refine wpList_app1 (cs := #[.int .i64 (fa : Int), .int .i64 (xb : Int)]) rfl (.tmp 47) (.tmp 49) 71 rfl (F := (gaI Ba Bm t).fp) (W := w) sCnt (items := _ :: _ :: _ :: _ :: _) HS2.out 0 (n := m) rfl rfl rfl (by simp) rfl rfl (by omega) ?_
                 intro A7 c7 w7 hS7 hC
                 clear hC))
            have HS9 := hide (hS7.sub (l := [_, _, _]) (List.sublist_append_left [_, _, _] [_]))
            clear hS7
            go_roundw
            case rel => exact ⟨k + 1, m + 1, A7, c7, by omega, hide (by rw [HE.out]; simp [HMK.out]), by go_num, rfl, by rw [HE.out], by
              rw [HE.out]
              dsimp only
              rw [gpsV_app]
              exact HS9.out⟩
            case measure => simp [intOf]; omega
        · have hxf2 : ¬ ((xa, xb) : Gp) = (fa, fb) := fun e => by have := congrArg Prod.fst e; dsimp only at this; omega
          have h3 : ¬ fa < xa := by omega
          have h4 : ¬ fa = xa := by omega
          have t1 : decide ((fa : Int) < (xa : Int)) = false := by simp; omega
          have t2 : ((fa : Int) == (xa : Int)) = false := by simp; omega
          have HE := hide (show remK (fa, fb) t.mks (k + 1) = (ls ++ [(xa, xb)], false) from by rw [HSK.out]; unfold remS lePB; simp [hxf2, h3, h4])
          have hn1 : decide ((xa, xb) ≠ (fa, fb)) = true := by simp [hxf2, h3, h4]; try omega
          rw [hn1] at hng
          clear HSK hn1 
          go_upto_region 6 with fail
          rw [HW5.out, HGX.out]
          go_wp2_with (first
            | (at_builtin
               refine wpList_app1 (cs := #[.int .i64 (xa : Int), .int .i64 (xb : Int)]) rfl (.tmp 47) (.tmp 49) 71 rfl (F := (gaI Ba Bm t).fp) (W := w) sCnt (items := _ :: _ :: _ :: _ :: _) HS2.out 0 (n := m) rfl rfl rfl (by simp) rfl rfl (by omega) ?_
               intro A7 c7 w7 hS7 hC
               clear hC))
          have HS9 := hide (hS7.sub (l := [_, _, _]) (List.sublist_append_left [_, _, _] [_]))
          clear hS7
          go_roundw
          case rel => exact ⟨k + 1, m + 1, A7, c7, by omega, hide (by rw [HE.out]; simp [HMK.out]), by go_num, rfl, by rw [HE.out], by
            rw [HE.out]
            dsimp only
            rw [gpsV_app]
            exact HS9.out⟩
          case measure => simp [intOf]; omega
    · obtain rfl : k = M := by omega
      have hall := HALL.out
      have HM9 := hide (show m ≤ k + 1 from hmk)
      obtain ⟨⟨ls, pb⟩, hs⟩ : ∃ s, remK f t.mks k = s := ⟨_, rfl⟩
      rw [hs] at hS hall HMK ⊢
      dsimp only at hS hall HMK ⊢
      obtain ⟨c0, -, c2, c3, c4, -, c6, -⟩ := ga_cells (hS.get 1 rfl)
      cases pb with
      | true =>
        rw [if_pos rfl] at hall
        have HF := hide (ga_newM (L := [blkI gF 174 #[.int .i64 (f.1 : Int), .int .i64 (f.2 : Int)]]) (Sep.split (hS.perm (List.Perm.swap _ _ _))) HMK.out.symm)
        rw [hall] at HF
        clear hS hall hs
        go_wp2_with fail
        go_end0
        exact ⟨⟨_, rfl⟩, A, c, HF.out⟩
      | false =>
        rw [if_neg (by simp)] at hall
        obtain ⟨f1, f2, f3, -⟩ := hS.rules 2 (g := gF) (t := 174) rfl
        have f5 := (f1 0).trans (show _ = some (.int .i64 (f.1 : Int)) from rfl)
        have f6 := (f1 1).trans (show _ = some (.int .i64 (f.2 : Int)) from rfl)
        have HS := hide hS
        have HALL2 := hide hall
        clear hS f1 hs hall c0 c2 c3 c4 c6
        go_wp2_with (first
          | (at_builtin
             refine wpList_app1 (cs := #[.int .i64 (f.1 : Int), .int .i64 (f.2 : Int)]) rfl (.tmp 54) (.tmp 56) 71 rfl (F := (gaI Ba Bm t).fp) (W := w) sCnt (items := _ :: _ :: _ :: _) HS.out 0 (n := m) rfl rfl rfl (by simp) rfl rfl (by omega) ?_
             intro A6 c6 w6 hS6 hC6
             obtain ⟨q0, -, q2, q3, q4, -, q6, -⟩ := ga_cells (hS6.get 1 rfl)
             clear hC6))
        have hS7 := hS6
        rw [show gpsV ls ++ #[Value.int .i64 (f.1 : Int), Value.int .i64 (f.2 : Int)].toList = gpsV (ls ++ [f]) from (gpsV_app ls f).symm] at hS7
        rw [HALL2.out] at hS7
        go_end0
        exact ⟨⟨_, rfl⟩, A6, c6, ga_newM (L := [blkI gF 174 #[.int .i64 (f.1 : Int), .int .i64 (f.2 : Int)]]) (Sep.split (hS7.perm (List.Perm.swap _ _ _))) (by rw [← HALL2.out, List.length_append, ← HMK.out]; rfl)⟩
end Go.Proofs.Ytjphckfbbiehdaa
