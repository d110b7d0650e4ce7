/- A script of free words, played by the program. A script of free words that is refused. -/
import Derived.Test.YtjphckfbbiehdaaSFreePlays9
import Derived.Test.YtjphckfbbiehdaaSFreePlays10
import Derived.Test.YtjphckfbbiehdaaSFreePlays16
import Derived.Deep.DeepCutAuto
import Derived.Deep.CutBlock
set_option linter.unusedSimpArgs false
set_option linter.unusedVariables false
namespace Go.Proofs.Ytjphckfbbiehdaa
open Go.RowKit
structure FrOk (size : Nat) (a : FrA) : Prop where
  ok : FOk a.F
  le : ∀ b ∈ a.F, b.1 + b.2 ≤ size
  len : a.F.length ≤ size
  tk : ∀ (z : Int) (m : Nat), a.f z = some m → 0 ≤ z ∧ z.toNat + m ≤ size
theorem FySim.frok {size : Nat} {a : FrA} {y : FyA} (h : FySim size a y) : FrOk size a := ⟨h.ok, fun _ hb => h.le hb, h.flen, fun z m hz => by
  obtain ⟨i, h1, h2⟩ := h.f2 z m hz
  exact ⟨h2, (h.pc i _ h1 h2).2.1⟩⟩
/-- The list behind what was there. -/
theorem Sep.frAdd {W w w' : World} {pre : List Item} {B : Nat} {t : FrT} (h : Sep No W w pre) (h2 : Sep No w w' (frL B t)) : Sep No W w' (pre ++ frL B t) := by
  have h3 := h2.fold
  have h4 := h.consNew h2.below_ (allI (frL B t)) (h3.get 0 rfl) (fun g hg => (h3.lo 0 rfl g hg).resolve_left (fun h => h))
  exact (h4.split).perm List.perm_append_comm
theorem rd_blk {w : World} {g t size : Nat} {cs : Array Value} (h : Blk w g t cs) (hs : cs.size = size) : Rd w (fun _ => True) size (some ⟨g, 0, none⟩) 1 cs.toList := by
  refine ⟨by simp [hs], fun _ => ⟨⟨g, 0, none⟩, rfl, trivial, Blk.lt h, fun j u hu => ?_⟩⟩
  rw [bk_addr, Nat.zero_add, h.cell j]
  simpa using hu
theorem one_int (x : Int) : ∀ u ∈ #[Value.int .i64 x].toList, u.oneCell' = true := by
  intro u hu
  rw [List.mem_singleton.1 hu]; rfl
set_option maxRecDepth 1000000 in
set_option maxHeartbeats 32000000 in
theorem frPlay_ok (w : World) (size : Nat) (hs0 : 0 < size) (hsz : size ≤ 256) (p : Int) (hp : 1 ≤ p ∧ p ≤ 4) (Aq : Option Addr) (nd cd : Nat) (qs : List (Int × Int)) (hQ : Rd w (fun _ => True) 2 Aq nd (askV qs)) (hnd : nd ≤ 100) (hwf : ∀ q ∈ qs, wfI q.2)
    (hOK : ∀ k, k ≤ qs.length → FrOk size (runS (frStep size p) (qs.take k) (fr0 size)).2) :
    Calls Try.prog 18 #[.int .i64 (size : Int), .int .i64 p, .slice Aq nd cd] w fun e w' => ∃ A1 A2 A3 c1 c2 n3 c3, e = .returned (.tuple #[freedV A1 A2 A3 nd n3 c1 c2 c3, .int .i64 0]) ∧ Below w.heap.size w w' ∧ Rd w' (fun g => w.heap.size ≤ g) 1 A1 nd (ints ((runS (frStep size p) qs (fr0 size)).1.map fun e => e.1)) ∧ Rd w' (fun g => w.heap.size ≤ g) 1 A2 nd (ints ((runS (frStep size p) qs (fr0 size)).1.map fun e => e.2)) ∧ n3 = (runS (frStep size p) qs (fr0 size)).2.F.length ∧ Rd w' (fun g => w.heap.size ≤ g) 2 A3 n3 (bkV (runS (frStep size p) qs (fr0 size)).2.F) := by
  unfold freedV
  have HDL := hide (show qs.length = nd by have := hQ.1; rw [askV_length] at this; omega)
  have HOK := hide hOK
  have HWF := hide hwf
  obtain ⟨g, hg⟩ : ∃ g, w.heap.size = g := ⟨_, rfl⟩
  have hS0 := (Sep.nil No w).blkAt 49 #[.slice none 0 0, .slice none 0 0, .slice none 0 0] hg
  have HS0 := hide hS0
  have HQ := hide hQ
  have i1 : ¬ (256 : Int) < (size : Int) := by omega
  have i2 : decide ((256 : Int) < (size : Int)) = false := by simp; omega
  have i3 : ¬ (size : Int) < 1 := by omega
  have i4 : decide ((size : Int) < 1) = false := by simp; omega
  have i5 : ¬ (100 : Int) < (nd : Int) := by omega
  have i6 : decide ((100 : Int) < (nd : Int)) = false := by simp; omega
  clear hOK hS0 hQ hwf
  go_enter Try.func18, Try.ntmps18
  go_wp2_with fail
  refine (frnew_any _ size).mono ?_
  rintro e w1 ⟨B, t0, rfl, ht0, hta, hN1⟩
  have hS1 := HS0.out.frAdd hN1
  obtain ⟨b1, b2, b3, -⟩ := hS1.rules 1 (g := B) (t := 131) rfl
  have CH := hide (how_any w1 B t0.a.last p ((b1 2).trans rfl) b3)
  have HS1 := hide hS1
  clear hS1 hN1 HS0 b1 b2 b3
  go_wp2_with fail
  refine CH.out.mono ?_
  rintro e w2 ⟨hb2, hh⟩
  obtain ⟨_, _, kf, caps, rfl, -⟩ := hh.resolve_right (fun hno => hno.1 hp)
  have hS2 := HS1.out.below hb2
  obtain ⟨gO, hgO⟩ : ∃ g, w2.heap.size = g := ⟨_, rfl⟩
  have hS3 := ((hS2.blkAtF 49 #[.slice none 0 0, .slice none 0 0, .slice none 0 0] hgO).nilRow0 3 1).nilRow0 30 1
  have HS3 := hide hS3
  clear hS2 hS3 hb2 HS1 CH
  go_wp2_with fail
  go_loopw [41] (fun q wr => ∃ (k : Nat) (A1 : Option Addr) (c1 : Nat) (A2 : Option Addr) (c2 : Nat) (t : FrT), k ≤ nd ∧ q = .int .i64 k ∧ Hid (t.a = (runS (frStep size p) (qs.take k) (fr0 size)).2 ∧ t.N ≤ k) ∧ Sep No w wr ([rowI 30 1 A1 k c1 (ints ((runS (frStep size p) (qs.take k) (fr0 size)).1.map fun e => e.1)), rowI 3 1 A2 k c2 (ints ((runS (frStep size p) (qs.take k) (fr0 size)).1.map fun e => e.2)), blkI gO 49 #[.slice A1 k c1, .slice A2 k c2, .slice none 0 0], blkI g 49 #[.slice none 0 0, .slice none 0 0, .slice none 0 0]] ++ frL B t)) (fun q _ => nd - (intOf q).toNat)
  case atStart => exact ⟨0, none, 0, none, 0, t0, by omega, rfl, ⟨hta, by omega⟩, HS3.out⟩
  case round =>
    clear HS3 hta ht0 hh
    obtain ⟨k, A1, c1, A2, c2, t, hk, rfl, HI, hS⟩ := hrel
    by_cases hlt : k < nd
    · have okk := HOK.out k (by have := HDL.out; omega)
      rw [← HI.out.1] at okk
      have HO := hide okk
      have hkl : k < qs.length := by rw [HDL.out]; exact hlt
      obtain ⟨v0, v1⟩ := askV_at qs k hkl
      obtain ⟨ad, hA, _, had, hc, hd⟩ := (HQ.out.below hS.below_).atN hlt
      have e0 := hc _ v0
      have e1 := hd 0 _ v1
      have hrs := runS_at (frStep size p) qs (fr0 size) k hkl
      rw [← HI.out.1] at hrs
      have hwq := HWF.out qs[k] (List.getElem_mem hkl)
      obtain ⟨⟨qk, qn⟩, hq⟩ : ∃ q, qs[k] = q := ⟨_, rfl⟩
      rw [hq] at e0 e1 hrs hwq
      dsimp only at e0 e1 hwq
      have HRS := hide hrs
      have HWQ := hide hwq
      obtain ⟨gd, hgd⟩ : ∃ x, wr.heap.size = x := ⟨_, rfl⟩
      have hS2 := hS.blkAtF 127 #[.int .i64 qk, .int .i64 qn] hgd
      obtain ⟨W2, hW2⟩ : ∃ W, wr.alloc (.cells #[.int .i64 qk, .int .i64 qn] 127) = W := ⟨_, rfl⟩
      rw [hW2] at hS2
      have HW2 := hide hW2
      have HS2 := hide (show Sep No w W2 ([blkI gd 127 #[.int .i64 qk, .int .i64 qn], rowI 30 1 A1 k c1 (ints ((runS (frStep size p) (qs.take k) (fr0 size)).1.map fun e => e.1)), rowI 3 1 A2 k c2 (ints ((runS (frStep size p) (qs.take k) (fr0 size)).1.map fun e => e.2)), blkI gO 49 #[.slice A1 k c1, .slice A2 k c2, .slice none 0 0], blkI g 49 #[.slice none 0 0, .slice none 0 0, .slice none 0 0]] ++ frL B t) from hS2)
      have HN := hide HI.out.2
      subst hA
      clear hc hd v0 v1 hrs hq hS2 hS okk HI hkl hW2 hwq
      go_upto_block 2 with fail
      rw [HW2.out]
      clear HW2 e0 e1 had hgd
      go_cut [14, 15] (fun s14 s15 wx => ∃ (e z : Int) (t2 : FrT), s14 = .int .i64 z ∧ s15 = .int .i64 e ∧ Hid (runS (frStep size p) (qs.take (k + 1)) (fr0 size) = ((runS (frStep size p) (qs.take k) (fr0 size)).1 ++ [(e, z)], t2.a) ∧ t2.N ≤ k + 1) ∧ Sep No w wx ([blkI gd 127 #[.int .i64 qk, .int .i64 qn], rowI 30 1 A1 k c1 (ints ((runS (frStep size p) (qs.take k) (fr0 size)).1.map fun e => e.1)), rowI 3 1 A2 k c2 (ints ((runS (frStep size p) (qs.take k) (fr0 size)).1.map fun e => e.2)), blkI gO 49 #[.slice A1 k c1, .slice A2 k c2, .slice none 0 0], blkI g 49 #[.slice none 0 0, .slice none 0 0, .slice none 0 0]] ++ frL B t2))
      case rest =>
        clear HS2 HRS HO HQ HOK HWF HWQ HN
        obtain ⟨e, z, t2, rfl, rfl, HR2, hS3⟩ := hcut
        obtain ⟨u1, u2, u3, -⟩ := hS3.rules 3 (g := gO) (t := 49) rfl
        have u5 := (u1 0).trans (show _ = some (.slice A1 k c1) from rfl)
        have u6 := (u1 1).trans (show _ = some (.slice A2 k c2) from rfl)
        have HS3 := hide hS3
        clear hS3 u1
        go_upto_region 24 with fail
        go_region_law (first
        | (refine step_app1d (cs := #[.int .i64 e]) rfl (.tmp 84) (.tmp 86) 46 rfl (F := No) (W := w) sErr (items := [_, _, _, _, _, _, _, _]) HS3.out 1 (n := k) rfl rfl rfl (by simp) rfl rfl (by omega) ?_
           intro A6 c6 w6 hS6 hC6
           (have hS6' := hS6)
           (have HS6 := hide hS6')
           obtain ⟨v1, v2, v3, -⟩ := hS6'.rules 3 (g := gO) (t := 49) rfl
           (have v5 := (v1 0).trans (show _ = some (.slice A1 k c1) from rfl))
           (have v6 := (v1 1).trans (show _ = some (.slice A2 k c2) from rfl))
           clear hS6 hS6' hC6 v1)
        | (refine step_app1d (cs := #[.int .i64 e]) rfl (.tmp 84) (.tmp 86) 46 rfl (F := No) (W := w) sErr (items := [_, _, _, _, _, _, _, _, _]) (HS3.out.blkAt 3 #[.int .i64 z] rfl) 1 (n := k) rfl rfl rfl (by simp) rfl rfl (by omega) ?_
           intro A6 c6 w6 hS6 hC6
           (have hS6' := hS6.sub (List.sublist_append_left [_, _, _, _, _, _, _, _] [_]))
           (have HZ6 := hide (hS6.get 8 (i := blkI _ 3 #[.int .i64 z]) rfl))
           (have HS6 := hide hS6')
           obtain ⟨v1, v2, v3, -⟩ := hS6'.rules 3 (g := gO) (t := 49) rfl
           (have v5 := (v1 0).trans (show _ = some (.slice A1 k c1) from rfl))
           (have v6 := (v1 1).trans (show _ = some (.slice A2 k c2) from rfl))
           clear hS6 hS6' hC6 v1)
        | (refine step_app rfl (.tmp 84) (.tmp 86) 46 rfl (F := No) (W := w) sErr (items := [_, _, _, _, _, _, _, _, _, _]) ((HS3.out.blkAt 30 #[.int .i64 e] rfl).blkAt 3 #[.int .i64 z] (g := wc.heap.size + 1) (by simp)).drew 1 (n := k) rfl rfl rfl (rd_blk (((HS3.out.blkAt 30 #[.int .i64 e] rfl).blkAt 3 #[.int .i64 z] (g := wc.heap.size + 1) (by simp)).drew.get 8 rfl) rfl) (one_int e) (by omega) ?_
           intro A6 c6 w6 hS6 hC6
           (have hS6' := hS6.sub (List.sublist_append_left [_, _, _, _, _, _, _, _] [_, _]))
           (have HZ6 := hide (hS6.get 9 (i := blkI _ 3 #[.int .i64 z]) rfl))
           (have HS6 := hide hS6')
           obtain ⟨v1, v2, v3, -⟩ := hS6'.rules 3 (g := gO) (t := 49) rfl
           (have v5 := (v1 0).trans (show _ = some (.slice A1 k c1) from rfl))
           (have v6 := (v1 1).trans (show _ = some (.slice A2 k c2) from rfl))
           clear hS6 hS6' hC6 v1)
        | (refine step_app1 (cs := #[.int .i64 z]) rfl (.tmp 89) (.tmp 91) 35 rfl (F := No) (W := w) sInt (items := [_, _, _, _, _, _, _, _]) HS6.out 2 (n := k) rfl rfl rfl (by simp) rfl rfl (by omega) ?_
           intro A7 c7 w7 hS7 hC7
           (have HS7 := hide ((hS7.set_ 3 (g := gO) (t := 49) rfl 0 (.slice A6 (k + 1) c6)).set_ 3 (g := gO) (t := 49) rfl 1 (.slice A7 (k + 1) c7)))
           obtain ⟨v1, v2, v3, -⟩ := hS7.rules 3 (g := gO) (t := 49) rfl
           (have v5 := (v1 0).trans (show _ = some (.slice A1 k c1) from rfl))
           (have v6 := (v1 1).trans (show _ = some (.slice A2 k c2) from rfl))
           clear hS7 hC7 v1)
        | (refine step_app rfl (.tmp 89) (.tmp 91) 35 rfl (F := No) (W := w) sInt (items := [_, _, _, _, _, _, _, _]) HS6.out 2 (n := k) rfl rfl rfl (rd_blk HZ6.out rfl) (one_int z) (by omega) ?_
           intro A7 c7 w7 hS7 hC7
           (have HS7 := hide ((hS7.set_ 3 (g := gO) (t := 49) rfl 0 (.slice A6 (k + 1) c6)).set_ 3 (g := gO) (t := 49) rfl 1 (.slice A7 (k + 1) c7)))
           obtain ⟨v1, v2, v3, -⟩ := hS7.rules 3 (g := gO) (t := 49) rfl
           (have v5 := (v1 0).trans (show _ = some (.slice A1 k c1) from rfl))
           (have v6 := (v1 1).trans (show _ = some (.slice A2 k c2) from rfl))
           clear hS7 hC7 v1))
        all_goals
          have HS8 := hide (HS7.out.sub (List.sublist_cons_self _ _))
          clear HS7
          go_wp2_with fail
          go_roundw
          case rel => exact ⟨k + 1, A6, c6, A7, c7, t2, by omega, by go_num, ⟨by rw [HR2.out.1], HR2.out.2⟩, by
            rw [HR2.out.1]
            dsimp only
            rw [map_snoc, map_snoc, ints_snoc, ints_snoc]
            exact HS8.out⟩
          case measure => simp [intOf]; omega
      case first =>
        obtain ⟨z1, z2, z3, -⟩ := HS2.out.rules 0 (g := gd) (t := 127) rfl
        have z5 := (z1 0).trans (show _ = some (.int .i64 qk) from rfl)
        have z6 := (z1 1).trans (show _ = some (.int .i64 qn) from rfl)
        clear z1
        by_cases hk1 : qk = 1
        · subst hk1
          by_cases hb : qn < 1 ∨ (size : Int) < qn
          · have hrs := HRS.out
            rw [show frStep size p (1, qn) t.a = ((3, 0), t.a) from by
              unfold frStep
              rw [if_pos rfl, if_pos hb]] at hrs
            have HRS2 := hide hrs
            clear hrs HRS
            by_cases hb1 : qn < 1
            · have t1 : decide (qn < 1) = true := by simp [hb1]
              clear hb hb1
              go_wp2_with fail
              go_meet
              case rel => exact ⟨3, 0, t, rfl, rfl, ⟨HRS2.out, Nat.le_succ_of_le HN.out⟩, HS2.out⟩
            · have t1 : decide (qn < 1) = false := by simp; omega
              have t2 : decide ((size : Int) < qn) = true := by simp; omega
              clear hb hb1
              go_wp2_with fail
              go_meet
              case rel => exact ⟨3, 0, t, rfl, rfl, ⟨HRS2.out, Nat.le_succ_of_le HN.out⟩, HS2.out⟩
          · obtain ⟨n, rfl⟩ := int_nat (show 0 ≤ qn from by omega)
            have hn1 : 0 < n := by omega
            have hn2 : n ≤ size := by omega
            have t1 : decide ((n : Int) < 1) = false := by simp; omega
            have t1' : decide (n < 1) = false := by simp; omega
            have t2 : decide ((size : Int) < (n : Int)) = false := by simp; omega
            have t2' : decide (size < n) = false := by simp; omega
            have hst : frStep size p (1, (n : Int)) t.a = match pickK t.a.F n p t.a.last t.a.F.length with
                | none => ((6, 0), t.a)
                | some i => ((0, ((t.a.F.getD i (0, 0)).1 : Int)), t.a.take i n) := by
              unfold frStep
              rw [if_pos rfl, if_neg (by simp; omega), Int.toNat_natCast]
              rfl
            have HST := hide hst
            have CT := hide (frtake_any (fy_gather HS2.out) n hn1 (by omega) p hp (by have := HO.out.len; omega) (fun b hb => by have := HO.out.le b hb; omega) (by have := HN.out; omega))
            clear hb hn1 hn2 hst
            go_wp2_with fail
            refine CT.out.mono ?_
            rintro e w4 (⟨hno, rfl, hS4⟩ | ⟨i, hi, rfl, t', ha', hN', hS4⟩)
            · have HS4 := hide (fy_ungather hS4)
              have hrs := HRS.out
              rw [show frStep size p (1, (n : Int)) t.a = ((6, 0), t.a) from by rw [HST.out, hno]] at hrs
              have HRS2 := hide hrs
              clear hS4 hrs hno CT HS2
              go_wp2_with fail
              go_meet
              case rel => exact ⟨6, 0, t, rfl, rfl, ⟨HRS2.out, Nat.le_succ_of_le HN.out⟩, HS4.out⟩
            · have HS4 := hide (fy_ungather hS4)
              have hrs := HRS.out
              rw [show frStep size p (1, (n : Int)) t.a = ((0, ((t.a.F.getD i (0, 0)).1 : Int)), t'.a) from by rw [HST.out, hi, ha']] at hrs
              have HRS2 := hide hrs
              obtain ⟨ba, hba⟩ : ∃ ba, (t.a.F.getD i (0, 0)).1 = ba := ⟨_, rfl⟩
              rw [hba] at HRS2 ⊢
              have HN2 := hide (show t'.N ≤ k + 1 by have := HN.out; omega)
              clear hS4 hrs hi CT HS2 hN' ha' hba
              go_wp2_with fail
              go_meet
              case rel => exact ⟨0, ba, t', rfl, rfl, ⟨HRS2.out, HN2.out⟩, HS4.out⟩
        · have y1 : (qk == 1) = false := by rw [beq_eq_false_iff_ne]; exact hk1
          by_cases hk2 : qk = 2
          · subst hk2
            cases hf : t.a.f qn with
            | none =>
              have hrs := HRS.out
              rw [show frStep size p (2, qn) t.a = ((2, 0), t.a) from by
                unfold frStep
                rw [if_neg (by simp), if_pos rfl, hf]] at hrs
              have HRS2 := hide hrs
              have CG := hide (frgive_no (fy_gather HS2.out) qn HWQ.out hf)
              clear hrs hf HRS
              go_wp2_with fail
              refine CG.out.mono ?_
              rintro e w4 ⟨rfl, hS4⟩
              have HS4 := hide (fy_ungather hS4)
              clear hS4 CG HS2
              go_wp2_with fail
              go_meet
              case rel => exact ⟨2, 0, t, rfl, rfl, ⟨HRS2.out, Nat.le_succ_of_le HN.out⟩, HS4.out⟩
            | some m =>
              obtain ⟨h0, h1⟩ := HO.out.tk qn m hf
              obtain ⟨a, rfl⟩ := int_nat h0
              rw [Int.toNat_natCast] at h1
              have hrs := HRS.out
              rw [show frStep size p (2, (a : Int)) t.a = ((0, 0), t.a.give a m) from by
                unfold frStep
                rw [if_neg (by simp), if_pos rfl, hf]
                rw [Int.toNat_natCast]] at hrs
              have HRS2 := hide hrs
              have CG := hide (frgive_any (fy_gather HS2.out) a m hf (by omega) HO.out.ok (by have := HO.out.len; omega) (fun b hb => by have := HO.out.le b hb; omega))
              clear hrs hf HRS h0 h1
              go_wp2_with fail
              refine CG.out.mono ?_
              rintro e w4 ⟨rfl, t', ha', hN', hS4⟩
              have HS4 := hide (fy_ungather hS4)
              rw [← ha'] at HRS2
              have HN2 := hide (show t'.N ≤ k + 1 by have := HN.out; omega)
              clear hS4 CG HS2 ha' hN'
              go_wp2_with fail
              go_meet
              case rel => exact ⟨0, 0, t', rfl, rfl, ⟨HRS2.out, HN2.out⟩, HS4.out⟩
          · have y2 : (qk == 2) = false := by rw [beq_eq_false_iff_ne]; exact hk2
            have hrs := HRS.out
            rw [show frStep size p (qk, qn) t.a = ((5, 0), t.a) from by
              unfold frStep
              rw [if_neg hk1, if_neg hk2]] at hrs
            have HRS2 := hide hrs
            clear hrs HRS
            go_wp2_with fail
            go_meet
            case rel => exact ⟨5, 0, t, rfl, rfl, ⟨HRS2.out, Nat.le_succ_of_le HN.out⟩, HS2.out⟩
    · obtain rfl : k = nd := by omega
      rw [List.take_of_length_le (by rw [HDL.out]; exact Nat.le_refl _)] at hS HI
      obtain ⟨u1, u2, u3, -⟩ := hS.rules 2 (g := gO) (t := 49) rfl
      have u5 := (u1 0).trans (show _ = some (.slice A1 k c1) from rfl)
      have u6 := (u1 1).trans (show _ = some (.slice A2 k c2) from rfl)
      have u7 := (u1 2).trans (show _ = some (.slice none 0 0) from rfl)
      obtain ⟨x1, x2, x3, -⟩ := hS.rules 3 (g := g) (t := 49) rfl
      have x5 := (x1 0).trans (show _ = some (.slice none 0 0) from rfl)
      have x6 := (x1 1).trans (show _ = some (.slice none 0 0) from rfl)
      have x7 := (x1 2).trans (show _ = some (.slice none 0 0) from rfl)
      obtain ⟨b1, b2, b3, -⟩ := hS.rules 4 (g := B) (t := 131) rfl
      have b5 := (b1 0).trans (show _ = some (.slice (some ⟨t.g, 0, none⟩) t.a.F.length t.c) from rfl)
      have n1 : gO ≠ g := fun e => hS.other (a := 2) (b := 3) rfl rfl (by omega) gO rfl e
      have n2 : g ≠ gO := fun e => n1 e.symm
      obtain ⟨fl, hfl⟩ : ∃ x, t.a.F.length = x := ⟨_, rfl⟩
      have HFL := hide hfl
      rw [hfl] at b5
      have HS := hide hS
      clear hS u1 b1 hfl x5 x6 x7
      go_wp2_with fail
      have hF := (((HS.out.set_ 2 (g := gO) (t := 49) rfl 2 (.slice (some ⟨t.g, 0, none⟩) fl t.c)).set_ 3 (g := g) (t := 49) rfl 0 (.slice A1 k c1)).set_ 3 (g := g) (t := 49) rfl 1 (.slice A2 k c2)).set_ 3 (g := g) (t := 49) rfl 2 (.slice (some ⟨t.g, 0, none⟩) fl t.c)
      refine bodyPost_ret (v := .tuple #[.agg #[.slice A1 k c1, .slice A2 k c2, .slice (some ⟨t.g, 0, none⟩) fl t.c], .int .i64 0]) (by simp [results, Try.results18, go_sem, x1]) rfl ⟨A1, A2, some ⟨t.g, 0, none⟩, c1, c2, fl, t.c, rfl, hF.below_, hF.rd 0 rfl, hF.rd 1 rfl, by rw [← HFL.out, HI.out.1], ?_⟩
      have h9 := hF.rd 5 (n := t.a.F.length) rfl
      rw [HFL.out] at h9
      rw [← HI.out.1]
      exact h9
end Go.Proofs.Ytjphckfbbiehdaa

namespace Go.Proofs.Ytjphckfbbiehdaa
open Go.RowKit
def frErr (size p : Int) (nd : Nat) : Int := if size < 1 ∨ 256 < size then 3 else if p < 1 ∨ 4 < p then 5 else if 100 < nd then 1 else 0
set_option maxRecDepth 100000 in
set_option maxHeartbeats 16000000 in
theorem frPlay_no (w : World) (size p : Int) (Aq : Option Addr) (nd cd : Nat) (hz : frErr size p nd ≠ 0) :
    Calls Try.prog 18 #[.int .i64 size, .int .i64 p, .slice Aq nd cd] w fun e w' => e = .returned (.tuple #[freedV none none none 0 0 0 0 0, .int .i64 (frErr size p nd)]) ∧ Below w.heap.size w w' := by
  unfold freedV
  obtain ⟨g, hg⟩ : ∃ g, w.heap.size = g := ⟨_, rfl⟩
  have hS0 := (Sep.nil No w).blkAt 49 #[.slice none 0 0, .slice none 0 0, .slice none 0 0] hg
  have HS0 := hide hS0
  obtain ⟨x0, -, -, -⟩ := hS0.rules 0 (g := g) (t := 49) rfl
  clear hS0
  by_cases h1 : size < 1 ∨ 256 < size
  · have he : frErr size p nd = 3 := by unfold frErr; rw [if_pos h1]
    rw [he]
    by_cases h2 : size < 1
    · have t1 : decide (size < 1) = true := by simp [h2]
      clear h1 h2 he hz
      go_enter Try.func18, Try.ntmps18
      go_wp2_with fail
      refine bodyPost_ret (v := .tuple #[.agg #[.slice none 0 0, .slice none 0 0, .slice none 0 0], .int .i64 3]) (by simp [results, Try.results18, go_sem, x0]) rfl ⟨rfl, ?_⟩
      exact (HS0.out).below_
    · have t1 : decide (size < 1) = false := by simp; omega
      have t2 : decide (256 < size) = true := by simp; omega
      clear h1 h2 he hz
      go_enter Try.func18, Try.ntmps18
      go_wp2_with fail
      refine bodyPost_ret (v := .tuple #[.agg #[.slice none 0 0, .slice none 0 0, .slice none 0 0], .int .i64 3]) (by simp [results, Try.results18, go_sem, x0]) rfl ⟨rfl, ?_⟩
      exact (HS0.out).below_
  · obtain ⟨n, rfl⟩ := int_nat (show 0 ≤ size from by omega)
    have t1 : decide ((n : Int) < 1) = false := by simp; omega
    have t2 : decide ((256 : Int) < (n : Int)) = false := by simp; omega
    have t1' : decide (n < 1) = false := by simp; omega
    have t2' : decide (256 < n) = false := by simp; omega
    unfold frErr at hz ⊢
    rw [if_neg h1] at hz ⊢
    by_cases h2 : p < 1 ∨ 4 < p
    · rw [if_pos h2]
      clear h1 hz
      go_enter Try.func18, Try.ntmps18
      go_wp2_with fail
      refine (frnew_any _ n).mono ?_
      rintro e w1 ⟨B, t0, rfl, ht0, hta, hN1⟩
      have hS1 := HS0.out.frAdd hN1
      obtain ⟨b1, b2, b3, -⟩ := hS1.rules 1 (g := B) (t := 131) rfl
      have CH := hide (how_any w1 B t0.a.last p ((b1 2).trans rfl) b3)
      have HS1 := hide hS1
      clear hS1 hN1 HS0 b1 b2 b3 x0
      go_wp2_with fail
      refine CH.out.mono ?_
      rintro e w2 ⟨hb2, hh⟩
      obtain ⟨-, v, rfl⟩ := hh.resolve_left (fun h => by omega)
      have hS2 := HS1.out.below hb2
      obtain ⟨x1, x2, x3, -⟩ := hS2.rules 0 (g := g) (t := 49) rfl
      have HS2 := hide hS2
      clear hS2 hb2 HS1 CH hh h2
      go_wp2_with fail
      have hF := ((HS2.out.set_ 0 (g := g) (t := 49) rfl 0 (.slice none 0 0)).set_ 0 (g := g) (t := 49) rfl 1 (.slice none 0 0)).set_ 0 (g := g) (t := 49) rfl 2 (.slice none 0 0)
      refine bodyPost_ret (v := .tuple #[.agg #[.slice none 0 0, .slice none 0 0, .slice none 0 0], .int .i64 5]) (by simp [results, Try.results18, go_sem, x1]) rfl ⟨rfl, hF.below_⟩
    · rw [if_neg h2] at hz ⊢
      have h3 : 100 < nd := by
        rcases Nat.lt_or_ge 100 nd with h | h
        · exact h
        · rw [if_neg (by omega)] at hz; exact absurd rfl hz
      rw [if_pos h3]
      have t3 : decide ((100 : Int) < (nd : Int)) = true := by simp; omega
      have t4 : (100 : Int) < (nd : Int) := by omega
      clear h1 hz
      go_enter Try.func18, Try.ntmps18
      go_wp2_with fail
      refine (frnew_any _ n).mono ?_
      rintro e w1 ⟨B, t0, rfl, ht0, hta, hN1⟩
      have hS1 := HS0.out.frAdd hN1
      obtain ⟨b1, b2, b3, -⟩ := hS1.rules 1 (g := B) (t := 131) rfl
      have CH := hide (how_any w1 B t0.a.last p ((b1 2).trans rfl) b3)
      have HS1 := hide hS1
      clear hS1 hN1 HS0 b1 b2 b3 x0
      go_wp2_with fail
      refine CH.out.mono ?_
      rintro e w2 ⟨hb2, hh⟩
      obtain ⟨_, _, kf, caps, rfl, -⟩ := hh.resolve_right (fun h => by omega)
      have hS2 := HS1.out.below hb2
      obtain ⟨x1, x2, x3, -⟩ := hS2.rules 0 (g := g) (t := 49) rfl
      have HS2 := hide hS2
      clear hS2 hb2 HS1 CH hh h2
      go_wp2_with fail
      have hF := ((HS2.out.set_ 0 (g := g) (t := 49) rfl 0 (.slice none 0 0)).set_ 0 (g := g) (t := 49) rfl 1 (.slice none 0 0)).set_ 0 (g := g) (t := 49) rfl 2 (.slice none 0 0)
      refine bodyPost_ret (v := .tuple #[.agg #[.slice none 0 0, .slice none 0 0, .slice none 0 0], .int .i64 1]) (by simp [results, Try.results18, go_sem, x1]) rfl ⟨rfl, hF.below_⟩
end Go.Proofs.Ytjphckfbbiehdaa
