/- Canons: the reference's pair and Same. graph: the reference's Values and Graphs, at equals. The law GraphCanons: the walk. -/
import Derived.Test.YtaajkldhnjoicaaGGraphCanons1
import Derived.Test.YtaajkldhnjoicaaGTrialTells2
import Derived.Test.YtaajkldhnjoicaaGGraphTells3
set_option linter.unusedSimpArgs false
set_option linter.unusedVariables false
namespace Go.Proofs.Ytaajkldhnjoicaa
open Go.RowKit

theorem quiet_left_ {P : Program} {f : FuncId} {args : Array Value} {w : World} {n : Nat} {v : Value}
    (h : Calls P f args (w.drewN n) fun e w' => e = .returned v ∧ w.drewN n = w') : Calls P f args (w.drewN n) fun e w'' => e = .returned v ∧ ∃ m, w'' = w.drewN m :=
  h.mono fun _ _ ⟨he, hm⟩ => ⟨he, n, hm.symm⟩
theorem perm6_ {α : Type} (a b c d e f : α) : [a, b, c, d, e, f].Perm [a, b, e, f, c, d] := by
  classical
  rw [List.perm_iff_count]
  intro x
  simp only [List.count_cons, List.count_nil]
  omega
structure PrS where
  A1 : Option Addr
  n1 : Nat
  c1 : Nat
  A2 : Option Addr
  n2 : Nat
  c2 : Nat
  σ : Prs
def prIt (Bf Bt : Nat) (s : PrS) : Item := allI [rowI 3 1 s.A1 s.n1 s.c1 (ints s.σ.1), rowI 3 1 s.A2 s.n2 s.c2 (ints s.σ.2), blkI Bf 35 #[.slice s.A1 s.n1 s.c1], blkI Bt 35 #[.slice s.A2 s.n2 s.c2]]
structure PrOk (s : PrS) (N : Nat) : Prop where
  l1 : s.n1 = s.σ.1.length
  l2 : s.n2 = s.σ.2.length
  eq : s.n1 = s.n2
  le : s.n1 ≤ N
def prA (xs ys : List Val) (σ : Prs) : Option Prs := if xs.length = ys.length then prF σ (xs.zip ys) else none
theorem prF_none {σ : Prs} {l : List (Val × Val)} {j : Nat} (h : prF σ (l.take j) = none) : prF σ l = none := by
  have e : l = l.take j ++ l.drop j := (List.take_append_drop j l).symm
  rw [e]
  generalize l.drop j = r
  generalize l.take j = t at h
  unfold prF at h ⊢
  rw [List.foldlM_append, h]
  rfl
/-- What pair answers. -/
def PairQ (Bf Bt : Nat) (xs ys : List Val) (s : PrS) (F : Nat → Prop) (w : World) : Ending → World → Prop := fun e w' => ∃ (b : Bool) (s' : PrS), e = .returned (.bool b) ∧ (b = true → prA xs ys s.σ = some s'.σ) ∧ (b = false → prA xs ys s.σ = none) ∧ PrOk s' (s.n1 + xs.length) ∧ Sep F w w' [prIt Bf Bt s']

set_option maxRecDepth 100000 in
set_option maxHeartbeats 8000000 in
theorem pair_any (w : World) (Bf Bt : Nat) (A A' : Option Addr) (n n' c c' : Nat) (xs ys : List Val) (s : PrS) (N : Nat) (hN : N ≤ 500) (hs : (prIt Bf Bt s).P w) (hok : PrOk s N) (hn : n ≤ 100) (hn' : n' ≤ 100)
    (hx : Rd w (fun k => ¬ (prIt Bf Bt s).fp k) 2 A n (vals xs)) (hy : Rd w (fun k => ¬ (prIt Bf Bt s).fp k) 2 A' n' (vals ys)) :
    Calls Try.prog 93 #[.slice A n c, .slice A' n' c', .pointer (some ⟨Bf, 0, none⟩), .pointer (some ⟨Bt, 0, none⟩)] w (PairQ Bf Bt xs ys s (prIt Bf Bt s).fp w) := by
  have hl : xs.length = n := by have := hx.1; rw [vals_length] at this; omega
  have hl' : ys.length = n' := by have := hy.1; rw [vals_length] at this; omega
  have HL := hide hl
  have HL' := hide hl'
  obtain ⟨F, hF⟩ : ∃ F, (prIt Bf Bt s).fp = F := ⟨_, rfl⟩
  have HS0 := hide (Sep.start hs)
  rw [hF] at HS0 hx hy ⊢
  have HYtaajkldhnjoicaa := hide hx
  have HYY := hide hy
  have HOK := hide hok
  have hs1 : s.n1 ≤ N := hok.le
  clear hF hs hx hy hok
  by_cases hnn : n = n'
  · subst hnn
    clear hl hl'
    have HZ := hide (show (xs.zip ys).length = n from by rw [List.length_zip, HL.out, HL'.out]; omega)
    go_enter Try.func93, Try.ntmps93
    go_wp2_with fail
    go_loopw [9] (fun s9 wr => ∃ (i : Nat) (s2 : PrS), i ≤ n ∧ s9 = .int .i64 i ∧ Hid (prF s.σ ((xs.zip ys).take i) = some s2.σ) ∧ Hid (PrOk s2 (s.n1 + i)) ∧ Sep F w wr [prIt Bf Bt s2]) (fun s9 _ => n - (intOf s9).toNat)
    case atStart => exact ⟨0, s, by omega, rfl, by rw [List.take_zero]; exact prF_nil _, ⟨HOK.out.l1, HOK.out.l2, HOK.out.eq, by have := HOK.out; omega⟩, HS0.out⟩
    case round =>
      clear HS0
      obtain ⟨i, ⟨B1, m1, d1, B2, m2, d2, τ⟩, hi, rfl, HP, HO, hS⟩ := hrel
      have hm1 := HO.out.l1
      have hm2 := HO.out.l2
      have hm3 := HO.out.eq
      have hm4 := HO.out.le
      dsimp only at HP hm1 hm2 hm3 hm4
      subst hm3
      have HM1 := hide hm1
      have HM2 := hide hm2
      clear hm1 hm2
      have hSf := hS.flat
      obtain ⟨x1, x2, x3, x4⟩ := hSf.rules 2 (g := Bf) (t := 35) rfl
      have x5 := (x1 0).trans (show _ = some (.slice B1 m1 d1) from rfl)
      obtain ⟨y1, y2, y3, y4⟩ := hSf.rules 3 (g := Bt) (t := 35) rfl
      have y5 := (y1 0).trans (show _ = some (.slice B2 m1 d2) from rfl)
      by_cases hlt : i < n
      · have hkl : i < xs.length := by rw [HL.out]; exact hlt
        have hkl' : i < ys.length := by rw [HL'.out]; exact hlt
        obtain ⟨v1, v2⟩ := vals_at xs i hkl
        obtain ⟨u1, u2⟩ := vals_at ys i hkl'
        obtain ⟨ad, hA, _, had, hc, hd⟩ := (HYtaajkldhnjoicaa.out.chg hS.bel (fun g hg h => h hg)).atN hlt
        obtain ⟨ad', hA', _, had', hc', hd'⟩ := (HYY.out.chg hS.bel (fun g hg h => h hg)).atN hlt
        have e0 := hc _ v1
        have e1 := hc' _ u1
        have d0 := hd 0 _ v2
        have d1' := hd' 0 _ u2
        have HT := hide (show prF s.σ ((xs.zip ys).take (i + 1)) = pr1 τ xs[i] ys[i] from by
          rw [List.take_succ_eq_append_getElem (by rw [HZ.out]; exact hlt), prF_snoc, HP.out, List.getElem_zip]
          rfl)
        obtain ⟨x, hx⟩ : ∃ x, xs[i] = x := ⟨_, rfl⟩
        obtain ⟨y, hy⟩ : ∃ x, ys[i] = x := ⟨_, rfl⟩
        rw [hx] at e0 d0 HT
        rw [hy] at e1 d1' HT
        have hi0 : (0 : Int) ≤ (i : Int) := by omega
        have hi1 : (i : Int) < (n : Int) := by omega
        subst hA hA'
        have HS := hide hSf
        clear hc hc' hd hd' hx hy v1 v2 u1 u2 hS x1 x4 y1 y4 hSf
        have HNO := hide (show pr1 τ x y = none → prA xs ys s.σ = none from fun h => by
          unfold prA
          rw [if_pos (by rw [HL.out, HL'.out])]
          exact prF_none (HT.out.trans h))
        by_cases hr : x.1 = true ∧ y.1 = true
        · obtain ⟨xb, p⟩ := x
          obtain ⟨yb, q⟩ := y
          dsimp only at hr e0 e1 d0 d1'
          obtain ⟨rfl, rfl⟩ := hr
          have CH1 := hide (fun k => quiet_left_ (v := .bool (decide (p ∈ τ.1))) (has_any (wr.drewN k) (fun _ => True) B1 m1 d1 τ.1 p (by omega) ((HS.out.drewN k).rd_ 0 rfl)))
          have CH2 := hide (fun k => quiet_left_ (v := .bool (decide (q ∈ τ.2))) (has_any (wr.drewN k) (fun _ => True) B2 m1 d2 τ.2 q (by omega) ((HS.out.drewN k).rd_ 1 rfl)))
          obtain ⟨b1, hb1⟩ : ∃ b, decide (p ∈ τ.1) = b := ⟨_, rfl⟩
          obtain ⟨b2, hb2⟩ : ∃ b, decide (q ∈ τ.2) = b := ⟨_, rfl⟩
          simp only [hb1] at CH1
          simp only [hb2] at CH2
          have HB1 := hide hb1
          have HB2 := hide hb2
          clear hb1 hb2
          by_cases hbb : b1 = b2
          · subst hbb
            have hkey : p ∈ τ.1 ↔ q ∈ τ.2 := by rw [← decide_eq_true_iff (p := p ∈ τ.1), ← decide_eq_true_iff (p := q ∈ τ.2), HB1.out, HB2.out]
            have HKEY := hide hkey
            clear hkey
            go_wp2_with fail
            go_quiet ((go_at_call 78; first | with_reducible exact CH1.out _ | with_reducible exact CH2.out _))
            obtain ⟨W1, hW1⟩ : ∃ x, wr.drewN nq = x := ⟨_, rfl⟩
            have hS1 := HS.out.drewN nq
            have hb5 : Below wr.heap.size wr (wr.drewN nq) := below_drewN (Below.refl _ _) nq
            have C3 := has_any (wr.drewN nq) (fun _ => True) B1 m1 d1 τ.1 p (by omega) (hS1.rd_ 0 rfl)
            rw [hW1] at hS1 C3 ⊢
            obtain ⟨x1, x2, x3, x4⟩ := hS1.rules 2 (g := Bf) (t := 35) rfl
            have x5 := (x1 0).trans (show _ = some (.slice B1 m1 d1) from rfl)
            obtain ⟨y1, y2, y3, y4⟩ := hS1.rules 3 (g := Bt) (t := 35) rfl
            have y5 := (y1 0).trans (show _ = some (.slice B2 m1 d2) from rfl)
            have HS1 := hide hS1
            clear hW1 hS1 hb5 e0 e1 d0 d1' had had' x1 x4 y1 y4 CH1 CH2
            cases b1 with
            | true =>
              have hp : p ∈ τ.1 := of_decide_eq_true HB1.out
              have hq := HKEY.out.1 hp
              rw [HB1.out] at C3
              have HC3 := hide C3
              have hpl := placeN_lt hp
              have HPR := hide (show pr1 τ (true, p) (true, q) = if τ.2.getD (placeN τ.1 p) 0 = q then some τ else none from by
                unfold pr1
                rw [if_pos ⟨rfl, rfl⟩, if_pos HKEY.out]
                simp only [if_pos hp])
              obtain ⟨j, hj⟩ : ∃ j, placeN τ.1 p = j := ⟨_, rfl⟩
              have CH3 := hide (fun k => Calls.quiet_of_same (v := .int .i64 (placeN τ.1 p : Int)) (placeR_any (W1.drewN k) B1 m1 d1 τ.1 p (by omega) ((HS1.out.drewN k).rd_ 0 rfl)))
              rw [hj] at hpl HPR CH3
              have hjm : j < m1 := by have := HM1.out; omega
              have hj0 : (0 : Int) ≤ (j : Int) := by omega
              have hj1 : (j : Int) < (m1 : Int) := by omega
              obtain ⟨gt, hgt, f1⟩ := ints_cell (HS1.out.get 1 rfl) j hjm
              obtain ⟨z, hz⟩ : ∃ z, τ.2.getD j 0 = z := ⟨_, rfl⟩
              rw [hz] at f1 HPR
              have HGT := hide hgt
              subst hgt
              clear C3 hp hq hpl hj hz HP HO
              by_cases hzq : z = q
              · have k1 : (z != q) = false := by simp [hzq]
                have HP2 := hide (HT.out.trans (HPR.out.trans (if_pos hzq)))
                have HO2 := hide (show PrOk ⟨B1, m1, d1, some ⟨gt, 0, none⟩, m1, d2, τ⟩ (s.n1 + (i + 1)) from ⟨HM1.out, HM2.out, rfl, by dsimp only; omega⟩)
                clear hzq HT HNO HPR
                go_wp2_with fail
                refine HC3.out.mono ?_
                rintro e w6 ⟨rfl, rfl⟩
                go_wp2_with fail
                go_quiet ((go_at_call 127; with_reducible exact CH3.out _))
                go_wp2_with fail
                go_roundw
                case rel => exact ⟨i + 1, _, by omega, by go_num, HP2, HO2, (HS1.out.drewN _).fold⟩
                case measure => simp [intOf]; omega
              · have k1 : (z != q) = true := by simp [hzq]
                have HD := hide (HNO.out (HPR.out.trans (if_neg hzq)))
                have HO2 := hide (show PrOk ⟨B1, m1, d1, some ⟨gt, 0, none⟩, m1, d2, τ⟩ (s.n1 + xs.length) from ⟨HM1.out, HM2.out, rfl, by dsimp only; have := HL.out; omega⟩)
                clear hzq HT HNO HPR
                go_wp2_with fail
                refine HC3.out.mono ?_
                rintro e w6 ⟨rfl, rfl⟩
                go_wp2_with fail
                go_quiet ((go_at_call 127; with_reducible exact CH3.out _))
                go_wp2_with fail
                go_ret
                exact ⟨false, _, rfl, (fun h => by cases h), fun _ => HD.out, HO2.out, (HS1.out.drewN _).fold⟩
            | false =>
              have hp : p ∉ τ.1 := of_decide_eq_false HB1.out
              have hq : q ∉ τ.2 := of_decide_eq_false HB2.out
              rw [HB1.out] at C3
              have HC3 := hide C3
              have HPR := hide (show pr1 τ (true, p) (true, q) = some (τ.1 ++ [p], τ.2 ++ [q]) from by
                unfold pr1
                rw [if_pos ⟨rfl, rfl⟩, if_pos HKEY.out]
                simp only [if_neg hp]
                rw [if_pos]
                rw [placeN_last hp, ← HM1.out, HM2.out]
                simp [List.getD_eq_getElem?_getD])
              have HPL := hide (show placeN (τ.1 ++ [p]) p = m1 from by rw [placeN_last hp, ← HM1.out])
              have HGQ := hide (show (τ.2 ++ [q]).getD m1 0 = q from by rw [HM2.out]; simp [List.getD_eq_getElem?_getD])
              have HP2 := hide (HT.out.trans HPR.out)
              have HLA := hide (show m1 + 1 = (τ.1 ++ [p]).length from by rw [List.length_append, ← HM1.out]; rfl)
              have HLB := hide (show m1 + 1 = (τ.2 ++ [q]).length from by rw [List.length_append, ← HM2.out]; rfl)
              have k1 : (q != q) = false := by simp
              clear C3 hp hq HP HO HT HNO HPR
              go_wp2_with fail
              refine HC3.out.mono ?_
              rintro e w6 ⟨rfl, rfl⟩
              go_wp2_with (first
                | (at_builtin
                   refine wpList_app1 (cs := #[.int .i64 p]) rfl (.tmp 76) (.tmp 78) 35 rfl sInt HS1.out 0 (n := m1) rfl rfl rfl (by simp) rfl rfl (by omega) ?_
                   intro A5 c5 w5 hS5 hC5
                   obtain ⟨z1, z2, z3, z4⟩ := hS5.rules 2 (g := Bf) (t := 35) rfl
                   have hS6 := hS5.set_ 2 (g := Bf) (t := 35) rfl 0 (.slice A5 (m1 + 1) c5)
                   obtain ⟨t1, t2, t3, t4⟩ := hS6.rules 3 (g := Bt) (t := 35) rfl
                   (have t5 := (t1 0).trans (show _ = some (.slice B2 m1 d2) from rfl))
                   (have HS6 := hide hS6)
                   clear hS5 hS6 t1 t4 z4 hC5)
                | (at_builtin
                   refine wpList_app1 (cs := #[.int .i64 q]) rfl (.tmp 84) (.tmp 86) 35 rfl sInt HS6.out 1 (n := m1) rfl rfl rfl (by simp) rfl rfl (by omega) ?_
                   intro A7 c7 w7 hS7 hC7
                   obtain ⟨z1, z2, z3, z4⟩ := hS7.rules 3 (g := Bt) (t := 35) rfl
                   have hS8 := hS7.set_ 3 (g := Bt) (t := 35) rfl 0 (.slice A7 (m1 + 1) c7)
                   (have HS8 := hide hS8)
                   clear hS7 hS8 z4 hC7))
              have hS9 : Sep F w (w7.setCell ⟨Bt, 0, none⟩ (.slice A7 (m1 + 1) c7)) [rowI 3 1 A5 (m1 + 1) c5 (ints (τ.1 ++ [p])), rowI 3 1 A7 (m1 + 1) c7 (ints (τ.2 ++ [q])), blkI Bf 35 #[.slice A5 (m1 + 1) c5], blkI Bt 35 #[.slice A7 (m1 + 1) c7]] := by
                rw [ints_snoc_, ints_snoc_]; exact HS8.out
              obtain ⟨W2, hW2⟩ : ∃ x, w7.setCell ⟨Bt, 0, none⟩ (.slice A7 (m1 + 1) c7) = x := ⟨_, rfl⟩
              rw [hW2] at hS9 ⊢
              obtain ⟨r1, r2, r3, r4⟩ := hS9.rules 2 (g := Bf) (t := 35) rfl
              have r5 := (r1 0).trans (show _ = some (.slice A5 (m1 + 1) c5) from rfl)
              obtain ⟨s1', s2', s3', s4'⟩ := hS9.rules 3 (g := Bt) (t := 35) rfl
              have s5' := (s1' 0).trans (show _ = some (.slice A7 (m1 + 1) c7) from rfl)
              have CH3 := hide (fun k => Calls.quiet_of_same (v := .int .i64 (placeN (τ.1 ++ [p]) p : Int)) (placeR_any (W2.drewN k) A5 (m1 + 1) c5 (τ.1 ++ [p]) p (by omega) ((hS9.drewN k).rd_ 0 rfl)))
              rw [HPL.out] at CH3
              obtain ⟨gt, hgt, f1⟩ := ints_cell (hS9.get 1 rfl) m1 (by omega)
              rw [HGQ.out] at f1
              have HO2 := hide (show PrOk ⟨A5, m1 + 1, c5, A7, m1 + 1, c7, (τ.1 ++ [p], τ.2 ++ [q])⟩ (s.n1 + (i + 1)) from ⟨HLA.out, HLB.out, rfl, by dsimp only; omega⟩)
              have HS9 := hide hS9
              have hj0 : (0 : Int) ≤ (m1 : Int) := by omega
              have hj1 : (m1 : Int) < ((m1 + 1 : Nat) : Int) := by omega
              have hj2 : (m1 : Int) < (m1 : Int) + 1 := by omega
              subst hgt
              clear hW2 hS9 HS8 HS6 HC3 HS1 z1 z2 z3 t2 t3 t5 r1 r4 s1' s4' x2 x3 x5 y2 y3 y5
              go_quiet ((go_at_call 127; with_reducible exact CH3.out _))
              go_wp2_with fail
              go_roundw
              case rel => exact ⟨i + 1, _, by omega, by go_num, HP2, HO2, (HS9.out.drewN _).fold⟩
              case measure => simp [intOf]; omega
          · have HD := hide (HNO.out (by
              unfold pr1
              rw [if_pos ⟨rfl, rfl⟩, if_neg (fun h => hbb (by rw [← HB1.out, ← HB2.out]; simp [h]))]))
            have HO2 := hide (show PrOk ⟨B1, m1, d1, B2, m1, d2, τ⟩ (s.n1 + xs.length) from ⟨HM1.out, HM2.out, rfl, by dsimp only; have := HL.out; omega⟩)
            clear HP HO HT HNO
            cases b1 <;> cases b2
            · exact absurd rfl hbb
            · clear hbb
              go_wp2_with fail
              go_quiet ((go_at_call 78; first | with_reducible exact CH1.out _ | with_reducible exact CH2.out _))
              go_wp2_with fail
              go_ret
              exact ⟨false, _, rfl, (fun h => by cases h), fun _ => HD.out, HO2.out, (HS.out.drewN _).fold⟩
            · clear hbb
              go_wp2_with fail
              go_quiet ((go_at_call 78; first | with_reducible exact CH1.out _ | with_reducible exact CH2.out _))
              go_wp2_with fail
              go_ret
              exact ⟨false, _, rfl, (fun h => by cases h), fun _ => HD.out, HO2.out, (HS.out.drewN _).fold⟩
            · exact absurd rfl hbb
        · by_cases hxy : x = y
          · subst hxy
            obtain ⟨xb, p⟩ := x
            dsimp only at hr e0 e1 d0 d1'
            have hxb : xb = false := by cases xb <;> simp at hr ⊢
            subst hxb
            have HP2 := hide (HT.out.trans (show pr1 τ (false, p) (false, p) = some τ from by unfold pr1; rw [if_neg (by simp), if_pos rfl]))
            have HO2 := hide (show PrOk ⟨B1, m1, d1, B2, m1, d2, τ⟩ (s.n1 + (i + 1)) from ⟨HM1.out, HM2.out, rfl, by dsimp only; omega⟩)
            clear HT HNO HP HO hr
            go_wp2_with fail
            go_quiet (fail)
            go_wp2_with fail
            go_roundw
            case rel => exact ⟨i + 1, _, by omega, by go_num, HP2, HO2, (HS.out.drewN _).fold⟩
            case measure => simp [intOf]; omega
          · have HD := hide (HNO.out (by unfold pr1; rw [if_neg hr, if_neg hxy]))
            have HO2 := hide (show PrOk ⟨B1, m1, d1, B2, m1, d2, τ⟩ (s.n1 + xs.length) from ⟨HM1.out, HM2.out, rfl, by dsimp only; have := HL.out; omega⟩)
            rcases val_ne hxy with ⟨h1, h2⟩ | ⟨h1, h2⟩ | ⟨h1, h2⟩
            · obtain ⟨xb, p⟩ := x
              obtain ⟨yb, q⟩ := y
              dsimp only at h1 h2 e0 e1 d0 d1'
              subst h1 h2
              clear HT HNO HP HO hr hxy
              go_wp2_with fail
              go_quiet (fail)
              go_wp2_with fail
              go_ret
              exact ⟨false, _, rfl, (fun h => by cases h), fun _ => HD.out, HO2.out, (HS.out.drewN _).fold⟩
            · obtain ⟨xb, p⟩ := x
              obtain ⟨yb, q⟩ := y
              dsimp only at h1 h2 e0 e1 d0 d1'
              subst h1 h2
              clear HT HNO HP HO hr hxy
              go_wp2_with fail
              go_quiet (fail)
              go_wp2_with fail
              go_ret
              exact ⟨false, _, rfl, (fun h => by cases h), fun _ => HD.out, HO2.out, (HS.out.drewN _).fold⟩
            · obtain ⟨xb, p⟩ := x
              obtain ⟨yb, q⟩ := y
              dsimp only at h1 h2 e0 e1 d0 d1' hr
              subst h1
              have hxb : xb = false := by cases xb <;> simp at hr ⊢
              subst hxb
              clear HT HNO HP HO hr hxy
              go_wp2_with fail
              go_quiet (fail)
              go_wp2_with fail
              go_ret
              exact ⟨false, _, rfl, (fun h => by cases h), fun _ => HD.out, HO2.out, (HS.out.drewN _).fold⟩
      · obtain rfl : i = n := by omega
        have HE := hide (show prA xs ys s.σ = some τ from by
          unfold prA
          rw [if_pos (by rw [HL.out, HL'.out])]
          have h := HP.out
          rwa [List.take_of_length_le (by rw [HZ.out]; omega)] at h)
        have HS := hide hS
        clear hS hSf x1 x4 y1 y4
        go_wp2_with fail
        go_ret
        exact ⟨true, _, rfl, fun _ => HE.out, (fun h => by cases h), by rw [HL.out]; exact HO.out, HS.out⟩
  · have k1 : ((n : Int) != (n' : Int)) = true := by rw [bne_iff_ne]; omega
    have k2 : (n != n') = true := by simp [hnn]
    have HD := hide (show prA xs ys s.σ = none from by unfold prA; rw [if_neg (by omega)])
    clear hl hl'
    go_enter Try.func93, Try.ntmps93
    go_wp2_with fail
    go_ret
    exact ⟨false, s, rfl, (fun h => by cases h), fun _ => HD.out, ⟨HOK.out.l1, HOK.out.l2, HOK.out.eq, by omega⟩, HS0.out⟩

set_option maxRecDepth 100000 in
set_option maxHeartbeats 8000000 in
theorem refSame_any (w : World) (AO AR BO BR : Option Addr) (nO cO nR cR mO dO mR dR : Nat) (oa ob : List Ob) (ra rb : List Val) (hO : ObsRd w (fun _ => True) AO nO oa) (hR : Rd w (fun _ => True) 2 AR nR (vals ra)) (hO' : ObsRd w (fun _ => True) BO mO ob) (hR' : Rd w (fun _ => True) 2 BR mR (vals rb)) (hG : GOk nO nR oa ra) (hG' : GOk mO mR ob rb) :
    Calls Try.prog 36 #[.agg #[.slice AO nO cO, .slice AR nR cR], .agg #[.slice BO mO dO, .slice BR mR dR]] w fun e w' => ∃ b, e = .returned (.bool b) ∧ Tel b (Canons (oa.map Ob.fields) (ob.map Ob.fields) ra rb) ∧ Below w.heap.size w w' := by
  have hS0 := (((((Sep.nil No w).blkAt 25 #[.slice AO nO cO, .slice AR nR cR] rfl).blkAt 25 #[.slice BO mO dO, .slice BR mR dR] (g := w.heap.size + 1) (by simp)).blkAt 35 #[.slice none 0 0] (g := w.heap.size + 1 + 1) (by simp)).blkAt 35 #[.slice none 0 0] (g := w.heap.size + 1 + 1 + 1) (by simp))
  have hS1 := (((hS0.nilRow0 3 1).nilRow0 3 1).perm (perm6_ _ _ _ _ _ _)).join (l := [_, _, _, _]) (l' := [_, _])
  have HRA := hide (roots_len hR)
  have HRB := hide (roots_len hR')
  have hnR := hG.nR_
  have hmR := hG'.nR_
  have hnO := hG.nO_
  have hmO := hG'.nO_
  have HGA := hide hG
  have HGB := hide hG'
  have hRl := hR.more (D' := fun k => k < w.heap.size) (fun k hk _ => hk)
  have hRl' := hR'.more (D' := fun k => k < w.heap.size) (fun k hk _ => hk)
  have HOL := hide (hO.more (D' := fun k => k < w.heap.size) (fun k hk _ => hk))
  have HOL' := hide (hO'.more (D' := fun k => k < w.heap.size) (fun k hk _ => hk))
  have hok0 : PrOk ⟨none, 0, 0, none, 0, 0, ([], [])⟩ 0 := ⟨rfl, rfl, rfl, Nat.le_refl _⟩
  have HFP := hide (fun (W : World) (s : PrS) (items : List Item) (h : Sep No w W (prIt (w.heap.size + 1 + 1) (w.heap.size + 1 + 1 + 1) s :: items)) (k : Nat) (hk : k < w.heap.size) (hf : (prIt (w.heap.size + 1 + 1) (w.heap.size + 1 + 1 + 1) s).fp k) => show False from by
    rcases h.lo 0 rfl k hf with h | h
    · exact h
    · omega)
  have C1 := hide (pair_any _ (w.heap.size + 1 + 1) (w.heap.size + 1 + 1 + 1) AR BR nR mR cR dR ra rb ⟨none, 0, 0, none, 0, 0, ([], [])⟩ 0 (by omega) (hS1.get 0 rfl) hok0 (by omega) (by omega)
    ((hRl.below hS1.below_).more (fun k _ hk hf => HFP.out _ _ _ hS1 k hk hf)) ((hRl'.below hS1.below_).more (fun k _ hk hf => HFP.out _ _ _ hS1 k hk hf)))
  obtain ⟨ga, hga⟩ : ∃ ga, oa.map Ob.fields = ga := ⟨_, rfl⟩
  obtain ⟨gb, hgb⟩ : ∃ gb, ob.map Ob.fields = gb := ⟨_, rfl⟩
  have HGAE := hide hga
  have HGBE := hide hgb
  rw [hga, hgb]
  have hla := hG.len
  have hlb := hG'.len
  have hvga := hG.vg
  have hvgb := hG'.vg
  have hvra := hG.vr
  have hvrb := hG'.vr
  rw [hga] at hla hvga hvra
  rw [hgb] at hlb hvgb hvrb
  have HLA := hide hla
  have HLB := hide hlb
  have HVGA := hide hvga
  have HVGB := hide hvgb
  have HVRA := hide hvra
  have HVRB := hide hvrb
  have HS1 := hide hS1
  clear hS0 hS1 hRl hRl' hok0 hga hgb hla hlb hvga hvgb hvra hvrb hG hG'
  go_enter Try.func36, Try.ntmps36
  go_wp2_with fail
  refine C1.out.mono ?_
  rintro e w1 ⟨b1, s1, rfl, hb1, hb2, hok1, hP1⟩
  have hS2 := HS1.out.call 0 rfl hP1
  have HS2 := hide (show Sep No w w1 [prIt (w.heap.size + 1 + 1) (w.heap.size + 1 + 1 + 1) s1, blkI w.heap.size 25 #[.slice AO nO cO, .slice AR nR cR], blkI (w.heap.size + 1) 25 #[.slice BO mO dO, .slice BR mR dR]] from hS2)
  have HO1 := hide (show PrOk s1 100 from ⟨hok1.l1, hok1.l2, hok1.eq, by have h9 : s1.n1 ≤ 0 + ra.length := hok1.le; have := HRA.out; omega⟩)
  have HT := hide (show Yes b1 → SmI ga gb ra rb 0 s1.σ from fun h => by
    have h1 := hb1 h
    unfold prA at h1
    split at h1
    · rename_i hlen
      exact SmI.start HVRA.out HVRB.out hlen h1
    · cases h1)
  have HN := hide (show ¬ Yes b1 → ¬ Canons ga gb ra rb from fun h => by
    have h1 := hb2 (by cases b1 with | true => exact absurd rfl h | false => rfl)
    unfold prA at h1
    split at h1
    · exact Canons.no_start HVRA.out HVRB.out (.inr h1) HVGA.out HVGB.out
    · rename_i hlen; exact Canons.no_start HVRA.out HVRB.out (.inl hlen) HVGA.out HVGB.out)
  clear hb1 hb2 hok1 hP1 hS2 HS1 C1
  go_wp2_with fail
  go_loopw [7, 8] (fun s7 s8 wr => ∃ (k : Nat) (b : Bool) (s : PrS), k ≤ 24 ∧ s8 = .int .i64 k ∧ s7 = .bool b ∧ Hid (PrOk s 100) ∧ Hid (Yes b → SmI ga gb ra rb k s.σ) ∧ Hid (¬ Yes b → ¬ Canons ga gb ra rb) ∧
    Sep No w wr [prIt (w.heap.size + 1 + 1) (w.heap.size + 1 + 1 + 1) s, blkI w.heap.size 25 #[.slice AO nO cO, .slice AR nR cR], blkI (w.heap.size + 1) 25 #[.slice BO mO dO, .slice BR mR dR]]) (fun _ s8 _ => 24 - (intOf s8).toNat)
  case atStart => exact ⟨0, b1, s1, by omega, rfl, rfl, HO1, HT, HN, HS2.out⟩
  case round =>
    clear HS2 HO1 HT HN
    obtain ⟨k, b, ⟨A1, n1, c1, A2, n2, c2, σ⟩, hk, rfl, rfl, HO, HT, HN, hS⟩ := hrel
    have hSf := hS.split
    obtain ⟨x1, x2, x3, x4⟩ := hSf.rules 2 (g := w.heap.size + 1 + 1) (t := 35) rfl
    have x5 := (x1 0).trans (show _ = some (.slice A1 n1 c1) from rfl)
    obtain ⟨y1, y2, y3, y4⟩ := hSf.rules 3 (g := w.heap.size + 1 + 1 + 1) (t := 35) rfl
    have y5 := (y1 0).trans (show _ = some (.slice A2 n2 c2) from rfl)
    cases b with
    | false =>
      have HF := hide (HN.out (fun h => by cases h))
      have HB := hide hS.below_
      clear hS hSf x1 x4 y1 y4 HO HT HN
      go_wp2_with fail
      go_ret
      exact ⟨false, rfl, ⟨(fun h => by cases h), fun h => (HF.out h).elim⟩, HB.out⟩
    | true =>
      have hI := HT.out rfl
      have hn1 : n1 = σ.1.length := HO.out.l1
      have hn2 : n2 = σ.2.length := HO.out.l2
      have hn12 : n1 = n2 := HO.out.eq
      subst hn12
      have HN1 := hide hn1
      have HN2 := hide hn2
      have hle : n1 ≤ 24 := by have h9 : σ.1.length ≤ ga.length := hI.oa.len; have := HLA.out; omega
      clear hn1 hn2
      by_cases hlt : k < n1
      · have t1 : decide ((k : Int) < (n1 : Int)) = true := by simp; omega
        have t2 : decide (k < n1) = true := by simp; omega
        have hk1 : k < σ.1.length := by rw [← HN1.out]; exact hlt
        have hk2 : k < σ.2.length := by rw [← HN2.out]; exact hlt
        obtain ⟨f, hf, f1⟩ := ints_cell (hSf.get 0 rfl) k hlt
        obtain ⟨g, hg, g1⟩ := ints_cell (hSf.get 1 rfl) k hlt
        have hga := hI.oa.rng _ (getD_mem hk1)
        have hgb := hI.ob.rng _ (getD_mem hk2)
        obtain ⟨x, hx⟩ := int_nat hga.1
        obtain ⟨y, hy⟩ := int_nat hgb.1
        rw [hx] at f1 hga
        rw [hy] at g1 hgb
        have hxn : x < nO := by have := HLA.out; omega
        have hyn : y < mO := by have := HLB.out; omega
        obtain ⟨ad, o, hAO, _, had, e0, hrd, hfi, ho4, hofl⟩ := ob_at (HOL.out.below hS.below_) HGAE.out (fun o ho => HGA.out.fl o ho) hxn
        obtain ⟨ad', o', hAO', _, had', e0', hrd', hfi', ho4', hofl'⟩ := ob_at (HOL'.out.below hS.below_) HGBE.out (fun o ho => HGB.out.fl o ho) hyn
        obtain ⟨p1, p2, p3, p4⟩ := hS.rules 1 (g := w.heap.size) (t := 25) rfl
        have p5 := (p1 0).trans (show _ = some (.slice AO nO cO) from rfl)
        obtain ⟨q1, q2, q3, q4⟩ := hS.rules 2 (g := w.heap.size + 1) (t := 25) rfl
        have q5 := (q1 0).trans (show _ = some (.slice BO mO dO) from rfl)
        have hSd := hS.drewN 1
        have C2 := hide (pair_any (wr.drewN 1) (w.heap.size + 1 + 1) (w.heap.size + 1 + 1 + 1) o.A o'.A o.n o'.n o.c o'.c o.fields o'.fields ⟨A1, n1, c1, A2, n1, c2, σ⟩ 100 (by omega) (hSd.get 0 rfl) HO.out (by omega) (by omega)
          ((hrd.below (below_drewN (Below.refl _ _) 1)).more (fun k _ hk hf => HFP.out _ _ _ hSd k hk hf)) ((hrd'.below (below_drewN (Below.refl _ _) 1)).more (fun k _ hk hf => HFP.out _ _ _ hSd k hk hf)))
        have HI := hide hI
        have HX := hide hx
        have HY := hide hy
        have HFI := hide hfi
        have HFI' := hide hfi'
        have HSD := hide hSd
        have hi0 : (0 : Int) ≤ (k : Int) := by omega
        have hi1 : (k : Int) < (n1 : Int) := by omega
        have hi2 : (0 : Int) ≤ (x : Int) := by omega
        have hi3 : (x : Int) < (nO : Int) := by omega
        have hi4 : (0 : Int) ≤ (y : Int) := by omega
        have hi5 : (y : Int) < (mO : Int) := by omega
        have hofl1 : o.fields.length ≤ 4 := by omega
        have hmx : Try.prog.follows .mixedOrders = true := by kernel_rfl
        subst hf hg hAO hAO'
        clear hS hSf x1 x4 y1 y4 p1 p4 q1 q4 hI hx hy hfi hfi' hrd hrd' hofl hofl' hSd hga hgb HT HN hk1 hk2
        go_wp2_with fail
        go_still_tail 18, hmx
        go_wp2_with fail
        refine C2.out.mono ?_
        rintro e w4 ⟨b4, s4, rfl, hb1, hb2, hok4, hP4⟩
        have HS4 := hide (HSD.out.call 0 rfl hP4)
        have HO4 := hide (show PrOk s4 100 from ⟨hok4.l1, hok4.l2, hok4.eq, by have h9 : s4.n1 ≤ n1 + o.fields.length := hok4.le; omega⟩)
        have hkk : k < σ.1.length := by rw [← HN1.out]; exact hlt
        have HK2 := hide (show k + 1 ≤ 24 from by omega)
        have HT4 := hide (show Yes b4 → SmI ga gb ra rb (k + 1) s4.σ from fun h => by
          have h1 := hb1 h
          unfold prA at h1
          split at h1
          · rename_i hlen
            refine HI.out.next HVGA.out HVGB.out hkk ?_ ?_
            · rw [HX.out, HY.out, HFI.out, HFI'.out]; exact hlen
            · rw [HX.out, HY.out, HFI.out, HFI'.out]; exact h1
          · cases h1)
        have HN4 := hide (show ¬ Yes b4 → ¬ Canons ga gb ra rb from fun h => by
          have h1 := hb2 (by cases b4 with | true => exact absurd rfl h | false => rfl)
          refine HI.out.no_next HVRA.out HVRB.out HVGA.out HVGB.out hkk ?_
          rw [HX.out, HY.out, HFI.out, HFI'.out]
          unfold prA at h1
          split at h1
          · exact .inr h1
          · rename_i hlen; exact .inl hlen)
        clear hb1 hb2 hok4 hP4 C2 HSD HI hkk
        go_wp2_with fail
        go_roundw
        case rel => exact ⟨k + 1, b4, s4, HK2.out, by go_num, rfl, HO4, HT4, HN4, HS4.out⟩
        case measure => simp [intOf]; omega
      · have t1 : decide ((k : Int) < (n1 : Int)) = false := by simp; omega
        have t2 : decide (k < n1) = false := by simp; omega
        have HE := hide (hI.end_ (by rw [← HN1.out]; exact hlt))
        have HB := hide hS.below_
        clear hS hSf x1 x4 y1 y4 HO HT HN hI
        go_wp2_with fail
        go_ret
        exact ⟨true, rfl, ⟨fun _ => HE.out, fun _ => rfl⟩, HB.out⟩
end Go.Proofs.Ytaajkldhnjoicaa

namespace Go.Proofs.Ytaajkldhnjoicaa
open Go.RowKit

set_option maxHeartbeats 800000 in
theorem values_same (w : World) (D D' : Nat → Prop) (A A' : Option Addr) (n c c' : Nat) (xs : List Val) (hn : n ≤ 9223372036854775807)
    (h : Rd w D 2 A n (vals xs)) (h' : Rd w D' 2 A' n (vals xs)) :
    Calls Try.prog 85 #[.slice A n c, .slice A' n c'] w fun e w' => e = .returned (.bool true) ∧ Below w.heap.size w w' := by
  have HL := hide (show xs.length = n by have := h.1; rw [vals_length] at this; omega)
  go_enter Try.func85, Try.ntmps85
  go_wp2_with fail
  go_loopw [5] (fun i wr => ∃ k : Nat, k ≤ n ∧ i = .int .i64 k ∧ Below w.heap.size w wr) (fun i _ => n - (intOf i).toNat)
  case atStart => exact ⟨0, by omega, rfl, Below.refl _ _⟩
  case round =>
    obtain ⟨k, hk, rfl, hB⟩ := hrel
    by_cases hlt : k < n
    · have hkl : k < xs.length := by rw [HL.out]; exact hlt
      obtain ⟨v1, v2⟩ := vals_at xs k hkl
      obtain ⟨ad, hA, _, had, hc, hd⟩ := (h.below hB).atN hlt
      obtain ⟨ad', hA', _, had', hc', hd'⟩ := (h'.below hB).atN hlt
      have e0 := hc _ v1
      have e1 := hc' _ v1
      have d0 := hd 0 _ v2
      have d1 := hd' 0 _ v2
      obtain ⟨⟨b, x⟩, hx⟩ : ∃ x, xs[k] = x := ⟨_, rfl⟩
      rw [hx] at e0 e1 d0 d1
      subst hA hA'
      clear hc hc' hd hd' hx v1 v2
      go_wp2_with fail
      go_quiet (fail)
      go_wp2_with fail
      go_roundw
      case rel => exact ⟨k + 1, by omega, by go_num, below_drewN hB _⟩
      case measure => simp [intOf]; omega
    · go_wp2_with fail
      go_ret
      exact ⟨rfl, hB⟩
set_option maxRecDepth 100000 in
set_option maxHeartbeats 4000000 in
theorem graphs_any (w : World) (D D' : Nat → Prop) (v v' : Value) (fss : List (List Val)) (roots : List Val) (hf : ∀ fs ∈ fss, fs.length ≤ 1000) (hfs : fss.length ≤ 1000) (hr : roots.length ≤ 1000) (h : GraphRd w D v fss roots) (h' : GraphRd w D' v' fss roots) :
    Calls Try.prog 31 #[v, v'] w fun e w' => e = .returned (.bool true) ∧ Below w.heap.size w w' := by
  obtain ⟨A1, n1, c1, A2, n2, c2, obs, rfl, f1, f3, f2⟩ := h.ex
  obtain ⟨B1, m1, d1, B2, m2, d2, obs', rfl, g1, g3, g2⟩ := h'.ex
  have l1 : n1 = fss.length := by rw [← f3, List.length_map]; exact f1.len.symm
  have l2 : m1 = fss.length := by rw [← g3, List.length_map]; exact g1.len.symm
  have k1 : n2 = roots.length := by have := f2.1; rw [vals_length] at this; omega
  have k2 : m2 = roots.length := by have := g2.1; rw [vals_length] at this; omega
  subst k1
  subst l1
  subst l2 k2
  have HF := hide (show ∀ (k : Nat) (hk : k < obs.length) (hk' : k < obs'.length), obs[k].fields = obs'[k].fields ∧ obs[k].fields.length ≤ 1000 by
    intro k hk hk'
    have e : (obs.map Ob.fields)[k]? = (obs'.map Ob.fields)[k]? := by rw [f3, g3]
    rw [List.getElem?_map, List.getElem?_map, List.getElem?_eq_getElem hk, List.getElem?_eq_getElem hk'] at e
    refine ⟨by simpa using e, hf _ ?_⟩
    rw [← f3]
    exact List.mem_map.2 ⟨_, List.getElem_mem hk, rfl⟩)
  have hB0 : Below w.heap.size w ((w.alloc (.cells #[.slice A1 fss.length c1, .slice A2 roots.length c2] 25)).alloc (.cells #[.slice B1 fss.length d1, .slice B2 roots.length d2] 25)) := ((Below.refl _ w).alloc (Nat.le_refl _) _).alloc (by simp) _
  have C1 := hide (values_same _ _ _ A2 B2 roots.length c2 d2 roots (by omega) (f2.below hB0) (g2.below hB0))
  have HB0 := hide hB0
  have b1 := (Blk.new w 25 #[.slice A1 fss.length c1, .slice A2 roots.length c2]).alloc (.cells #[.slice B1 fss.length d1, .slice B2 roots.length d2] 25)
  have b2 := Blk.new (w.alloc (.cells #[.slice A1 fss.length c1, .slice A2 roots.length c2] 25)) 25 #[.slice B1 fss.length d1, .slice B2 roots.length d2]
  rw [World.size_alloc] at b2
  have HB1 := hide b1
  have HB2 := hide b2
  have HL1 := hide f1.len
  have HL2 := hide g1.len
  obtain ⟨N, hN⟩ : ∃ N, fss.length = N := ⟨_, rfl⟩
  rw [hN] at f1 g1 HB1 HB2 HB0 C1 HL1 HL2 hfs ⊢
  clear b1 b2 hB0 f2 g2 f3 g3 h h' hf hN
  go_enter Try.func31, Try.ntmps31
  go_wp2_with fail
  refine C1.out.mono ?_
  rintro e w3 ⟨rfl, hB3⟩
  have hB4 := HB0.out.trans (hB3.mono (by simp; omega))
  have HC1 := hide (HB1.out.below_ hB3)
  have HC2 := hide (HB2.out.below_ hB3)
  have HB4 := hide hB4
  clear C1 HB0 hB3 HB1 HB2 hB4
  go_wp2_with fail
  go_loopw [5] (fun i wr => ∃ k : Nat, k ≤ N ∧ i = .int .i64 k ∧ Below w.heap.size w wr ∧ Blk wr w.heap.size 25 #[.slice A1 N c1, .slice A2 roots.length c2] ∧ Blk wr (w.heap.size + 1) 25 #[.slice B1 N d1, .slice B2 roots.length d2]) (fun i _ => N - (intOf i).toNat)
  case atStart => exact ⟨0, by omega, rfl, HB4.out, HC1.out, HC2.out⟩
  case round =>
    clear HB4 HC1 HC2
    obtain ⟨k, hk, rfl, hB, hG, hG'⟩ := hrel
    obtain ⟨i1, i2, i3⟩ := hG.rules
    obtain ⟨j1, j2, j3⟩ := hG'.rules
    have i4 : wr.cell? ⟨w.heap.size, 0, none⟩ = some (.slice A1 N c1) := by rw [i1]; rfl
    have j4 : wr.cell? ⟨w.heap.size + 1, 0, none⟩ = some (.slice B1 N d1) := by rw [j1]; rfl
    clear i1 j1
    by_cases hlt : k < N
    · have hkl : k < obs.length := by rw [HL1.out]; exact hlt
      have hkl' : k < obs'.length := by rw [HL2.out]; exact hlt
      obtain ⟨ad, hA, _, had, hc⟩ := (f1.below hB).row.at_ hlt
      obtain ⟨ad', hA', _, had', hc'⟩ := (g1.below hB).row.at_ hlt
      have e0 := hc obs[k].val (by simp [List.getElem?_eq_getElem hkl])
      have e1 := hc' obs'[k].val (by simp [List.getElem?_eq_getElem hkl'])
      obtain ⟨hff, hfl⟩ := HF.out k hkl hkl'
      have hE := (f1.below hB).each _ (List.getElem_mem hkl)
      have hE' := (g1.below hB).each _ (List.getElem_mem hkl')
      have hn := f1.flen (List.getElem_mem hkl)
      have hn' := g1.flen (List.getElem_mem hkl')
      obtain ⟨o, ho⟩ : ∃ o, obs[k] = o := ⟨_, rfl⟩
      obtain ⟨o', ho'⟩ : ∃ o, obs'[k] = o := ⟨_, rfl⟩
      rw [ho] at e0 hff hE hn hfl
      rw [ho'] at e1 hff hE' hn'
      rw [← hff] at hE' hn'
      unfold Ob.val at e0 e1
      subst hA hA'
      have hnn : o'.n = o.n := by omega
      rw [hnn] at e1 hE'
      have HE := hide hE
      have HE' := hide hE'
      have hno : o.n ≤ 1000 := by omega
      have HNO := hide hno
      clear hc hc' ho ho' hff hn hn' hnn hfl hE hE' hno
      go_wp2_with fail
      have HBW := hide hB
      have HGW := hide hG
      have HGW' := hide hG'
      go_region_law (first
        | (try go_simp
           go_at_call 85
           refine (values_same wr.drew _ _ o.A o'.A o.n o.c o'.c o.fields (by have := HNO.out; omega) (HE.out.keep (Nat.le_refl _) (fun _ _ _ => rfl)) (HE'.out.keep (Nat.le_refl _) (fun _ _ _ => rfl))).mono ?_
           rintro e w4 ⟨rfl, hB4⟩))
      all_goals
        go_wp2_with fail
        go_roundw
        case rel => exact ⟨k + 1, by omega, by go_num, (HBW.out.drew.trans (hB4.mono HBW.out.size)), HGW.out.drew.below_ hB4, HGW'.out.drew.below_ hB4⟩
        case measure => simp [intOf]; omega
    · go_wp2_with fail
      go_ret
      exact ⟨rfl, hB⟩
end Go.Proofs.Ytaajkldhnjoicaa

namespace Go.Proofs.Ytaajkldhnjoicaa
open Go.RowKit

set_option maxRecDepth 100000 in
set_option maxHeartbeats 4000000 in
theorem graphCanons_no (w : World) (AO AR BO BR : Option Addr) (nO cO nR cR mO dO mR dR : Nat) (oa ob : List Ob) (ra rb : List Val) (hO : ObsRd w (fun _ => True) AO nO oa) (hR : Rd w (fun _ => True) 2 AR nR (vals ra)) (hO' : ObsRd w (fun _ => True) BO mO ob) (hR' : Rd w (fun _ => True) 2 BR mR (vals rb)) (hz : gcheck nO nR oa ra ≠ 0) :
    Calls Try.prog 9 #[.agg #[.slice AO nO cO, .slice AR nR cR], .agg #[.slice BO mO dO, .slice BR mR dR]] w fun e w' => e = .returned (.bool true) ∧ Below w.heap.size w w' := by
  have hS0 := ((Sep.nil No w).blkAt 25 #[.slice AO nO cO, .slice AR nR cR] rfl).blkAt 25 #[.slice BO mO dO, .slice BR mR dR] (g := w.heap.size + 1) (by simp)
  obtain ⟨a1, a2, a3, a4⟩ := hS0.rules 0 (g := w.heap.size) (t := 25) rfl
  have C1 := hide (canon_bad _ AO AR nO cO nR cR oa ra (hO.below hS0.below_) (hR.below hS0.below_) hz)
  have C2 := hide (fun w' (hb : Below w.heap.size w w') => same_bad w' AO AR BO BR nO cO nR cR mO dO mR dR oa ra (hO.below hb) (hR.below hb) hz)
  have C3 := hide (fun w' (hb : Below w.heap.size w w') => refCheck_any w' AO AR nO cO nR cR oa ra (hO.below hb) (hR.below hb))
  have C4 := hide (fun w' (hb : Below w.heap.size w w') => refCheck_any w' BO BR mO dO mR dR ob rb (hO'.below hb) (hR'.below hb))
  obtain ⟨x, hx⟩ : ∃ x, gcheck nO nR oa ra = x := ⟨_, rfl⟩
  obtain ⟨z, hz2⟩ : ∃ x, gcheck mO mR ob rb = x := ⟨_, rfl⟩
  rw [hx] at C1 hz
  simp only [hx] at C2 C3
  simp only [hz2] at C4
  have y1 : (x != 0) = true := by rw [bne_iff_ne]; exact hz
  have y2 : (x == 0) = false := by simp [hz]
  have HS0 := hide hS0
  clear hz hx hz2 hS0 a4
  go_enter Try.func9, Try.ntmps9
  go_wp2_with fail
  refine C1.out.mono ?_
  rintro e w1 ⟨rfl, hb1⟩
  have hS1 := (HS0.out.below hb1).blkAt 25 #[.slice none 0 0, .slice none 0 0] (g := w1.heap.size) rfl
  obtain ⟨b1, b2, b3, b4⟩ := (HS0.out.below hb1).rules 0 (g := w.heap.size) (t := 25) rfl
  obtain ⟨d1, d2, d3, d4⟩ := (HS0.out.below hb1).rules 1 (g := w.heap.size + 1) (t := 25) rfl
  have C5 := hide (C2.out _ hS1.below_)
  have HS1 := hide hS1
  clear hb1 HS0 C1 C2 a1 a2 a3 b4 d4 hS1
  go_wp2_with fail
  refine C5.out.mono ?_
  rintro e w2 ⟨rfl, hb2⟩
  have hS2 := HS1.out.below hb2
  clear b1 b2 b3 d1 d2 d3
  obtain ⟨b1, b2, b3, b4⟩ := hS2.rules 0 (g := w.heap.size) (t := 25) rfl
  have C6 := hide (C3.out _ hS2.below_)
  have HS2 := hide hS2
  clear hb2 HS1 C5 C3 b4 hS2
  go_wp2_with fail
  refine C6.out.mono ?_
  rintro e w3 ⟨rfl, hb3⟩
  have hS3 := HS2.out.below hb3
  clear b1 b2 b3
  obtain ⟨d1, d2, d3, d4⟩ := hS3.rules 1 (g := w.heap.size + 1) (t := 25) rfl
  have C7 := hide (C4.out _ hS3.below_)
  have HS3 := hide hS3
  clear hb3 HS2 C6 C4 d4 hS3
  go_wp2_with fail
  refine C7.out.mono ?_
  rintro e w4 ⟨rfl, hb4⟩
  have hS4 := HS3.out.below hb4
  clear d1 d2 d3
  obtain ⟨x1, x2, x3, x4⟩ := hS4.rules 2 (g := w1.heap.size) (t := 25) rfl
  have C8 := hide (graphs_any w4 _ _ _ _ [] [] (by simp) (by simp) (by simp) (GraphRd.nil w4 (fun _ => True)) (GraphRd.nil w4 (fun _ => True)))
  have HS4 := hide hS4
  clear hb4 HS3 C7 x4 hS4
  go_wp2_with fail
  refine C8.out.mono ?_
  rintro e w5 ⟨rfl, hb5⟩
  have HB5 := hide (HS4.out.below hb5).below_
  clear hb5 HS4 C8 x1 x2 x3
  go_wp2_with fail
  go_ret
  exact ⟨rfl, HB5.out⟩

set_option maxRecDepth 100000 in
set_option maxHeartbeats 8000000 in
theorem graphCanons_half (w : World) (AO AR BO BR : Option Addr) (nO cO nR cR mO dO mR dR : Nat) (oa ob : List Ob) (ra rb : List Val) (hO : ObsRd w (fun _ => True) AO nO oa) (hR : Rd w (fun _ => True) 2 AR nR (vals ra)) (hO' : ObsRd w (fun _ => True) BO mO ob) (hR' : Rd w (fun _ => True) 2 BR mR (vals rb)) (hz : gcheck nO nR oa ra = 0) :
    Calls Try.prog 9 #[.agg #[.slice AO nO cO, .slice AR nR cR], .agg #[.slice BO mO dO, .slice BR mR dR]] w fun e w' => e = .returned (.bool true) ∧ Below w.heap.size w w' := by
  have hG := gok_of hO hz
  have hS0 := ((Sep.nil No w).blkAt 25 #[.slice AO nO cO, .slice AR nR cR] rfl).blkAt 25 #[.slice BO mO dO, .slice BR mR dR] (g := w.heap.size + 1) (by simp)
  obtain ⟨a1, a2, a3, a4⟩ := hS0.rules 0 (g := w.heap.size) (t := 25) rfl
  have C1 := hide (canon_ok _ AO AR nO cO nR cR oa ra (hO.below hS0.below_) (hR.below hS0.below_) hz)
  have C2 := hide (show ∀ w' (hb : Below w.heap.size w w'), Calls Try.prog 34 #[.agg #[.slice AO nO cO, .slice AR nR cR], .agg #[.slice BO mO dO, .slice BR mR dR]] w' fun e w'' => ∃ b, e = .returned (.tuple #[.bool b, .int .i64 (gcheck mO mR ob rb)]) ∧ (if gcheck mO mR ob rb = 0 then Tel b (Canons (oa.map Ob.fields) (ob.map Ob.fields) ra rb) else b = false) ∧ Below w'.heap.size w' w'' from fun w' hb => by
    by_cases h : gcheck mO mR ob rb = 0
    · refine (same_ok w' AO AR BO BR nO cO nR cR mO dO mR dR oa ob ra rb (hO.below hb) (hR.below hb) (hO'.below hb) (hR'.below hb) hz h).mono ?_
      rintro e w'' ⟨b, rfl, h1, h2⟩
      exact ⟨b, by rw [h], by rw [if_pos h]; exact h1, h2⟩
    · refine (same_bad2 w' AO AR BO BR nO cO nR cR mO dO mR dR oa ob ra rb (hO.below hb) (hR.below hb) (hO'.below hb) (hR'.below hb) hz h).mono ?_
      rintro e w'' ⟨rfl, h2⟩
      exact ⟨false, rfl, by rw [if_neg h], h2⟩)
  have C3 := hide (fun w' (hb : Below w.heap.size w w') => refCheck_any w' AO AR nO cO nR cR oa ra (hO.below hb) (hR.below hb))
  have C4 := hide (fun w' (hb : Below w.heap.size w w') => refCheck_any w' BO BR mO dO mR dR ob rb (hO'.below hb) (hR'.below hb))
  have C9 := hide (fun w' (hb : Below w.heap.size w w') => refCanon_any w' AO AR nO cO nR cR oa ra (hO.below hb) (hR.below hb) hG)
  have C10 := hide (fun w' (hb : Below w.heap.size w w') (hz' : gcheck mO mR ob rb = 0) => refSame_any w' AO AR BO BR nO cO nR cR mO dO mR dR oa ob ra rb (hO.below hb) (hR.below hb) (hO'.below hb) (hR'.below hb) hG (gok_of hO' hz'))
  have hfa : ∀ fs ∈ renumF (oa.map Ob.fields) (order (oa.map Ob.fields) ra), fs.length ≤ 1000 := fun fs h => by have := renumF_fs hG.fs fs h; omega
  have hna : (renumF (oa.map Ob.fields) (order (oa.map Ob.fields) ra)).length ≤ 1000 := by unfold renumF; rw [List.length_map]; have := (order_ok hG.vg hG.vr).len; have := hG.len; have := hG.nO_; omega
  have hra : (ra.map (turnL (order (oa.map Ob.fields) ra))).length ≤ 1000 := by rw [List.length_map, roots_len hR]; have := hG.nR_; omega
  have C11 := hide (fun (w' : World) (D D' : Nat → Prop) (v v' : Value) (h : GraphRd w' D v (renumF (oa.map Ob.fields) (order (oa.map Ob.fields) ra)) (ra.map (turnL (order (oa.map Ob.fields) ra)))) (h' : GraphRd w' D' v' (renumF (oa.map Ob.fields) (order (oa.map Ob.fields) ra)) (ra.map (turnL (order (oa.map Ob.fields) ra)))) => graphs_any w' D D' v v' _ _ hfa hna hra h h')
  simp only [hz] at C3
  obtain ⟨z, hz2⟩ : ∃ x, gcheck mO mR ob rb = x := ⟨_, rfl⟩
  simp only [hz2] at C4 C2 C10
  generalize Canons (oa.map Ob.fields) (ob.map Ob.fields) ra rb = CC at C2 C10
  generalize renumF (oa.map Ob.fields) (order (oa.map Ob.fields) ra) = FA at C1 C9 C11
  generalize ra.map (turnL (order (oa.map Ob.fields) ra)) = RA at C1 C9 C11
  have HS0 := hide hS0
  clear hz hz2 hS0 a4 hG hfa hna hra
  go_enter Try.func9, Try.ntmps9
  go_wp2_with fail
  refine C1.out.mono ?_
  rintro e w1 ⟨A1, n1, c1, A2, n2, c2, rfl, hb1, hg1⟩
  have hS1 := (HS0.out.below hb1).blkAt 25 #[.slice A1 n1 c1, .slice A2 n2 c2] (g := w1.heap.size) rfl
  have HG1 := hide (hg1.below (w' := w1.alloc (.cells #[.slice A1 n1 c1, .slice A2 n2 c2] 25)) ((Below.refl _ w1).alloc (Nat.le_refl _) _))
  obtain ⟨b1, b2, b3, b4⟩ := (HS0.out.below hb1).rules 0 (g := w.heap.size) (t := 25) rfl
  obtain ⟨d1, d2, d3, d4⟩ := (HS0.out.below hb1).rules 1 (g := w.heap.size + 1) (t := 25) rfl
  have C5 := hide (C2.out _ hS1.below_)
  have HS1 := hide hS1
  clear hb1 HS0 C1 C2 a1 a2 a3 b4 d4 hS1 hg1
  go_wp2_with fail
  refine C5.out.mono ?_
  rintro e w2 ⟨b, rfl, htel, hb2⟩
  have HTEL := hide htel
  have HG2 := hide (HG1.out.below hb2)
  have hS2 := HS1.out.below hb2
  clear b1 b2 b3 d1 d2 d3
  obtain ⟨b1, b2, b3, b4⟩ := hS2.rules 0 (g := w.heap.size) (t := 25) rfl
  have C6 := hide (C3.out _ hS2.below_)
  have HS2 := hide hS2
  clear hb2 HS1 C5 C3 b4 hS2 htel HG1
  go_wp2_with fail
  refine C6.out.mono ?_
  rintro e w3 ⟨rfl, hb3⟩
  have hS3 := HS2.out.below hb3
  have HG3 := hide (HG2.out.below hb3)
  clear b1 b2 b3
  obtain ⟨d1, d2, d3, d4⟩ := hS3.rules 1 (g := w.heap.size + 1) (t := 25) rfl
  have C7 := hide (C4.out _ hS3.below_)
  have HS3 := hide hS3
  clear hb3 HS2 C6 C4 d4 hS3 HG2
  go_wp2_with fail
  refine C7.out.mono ?_
  rintro e w4 ⟨rfl, hb4⟩
  have hS4 := HS3.out.below hb4
  have HG4 := hide (HG3.out.below hb4)
  clear d1 d2 d3
  obtain ⟨x1, x2, x3, x4⟩ := hS4.rules 2 (g := w1.heap.size) (t := 25) rfl
  have x5 := (x1 0).trans (show _ = some (.slice A1 n1 c1) from rfl)
  have x6 := (x1 1).trans (show _ = some (.slice A2 n2 c2) from rfl)
  obtain ⟨b1, b2, b3, b4⟩ := hS4.rules 0 (g := w.heap.size) (t := 25) rfl
  have b5 := (b1 0).trans (show _ = some (.slice AO nO cO) from rfl)
  have b6 := (b1 1).trans (show _ = some (.slice AR nR cR) from rfl)
  have C8 := hide (C9.out w4.drew hS4.drew.below_)
  have HS4 := hide hS4
  have HGD := hide (HG4.out.below (w' := w4.drew) (Below.refl _ _).drew)
  clear hb4 HS3 C7 C9 x1 x4 b1 b4 hS4 HG3
  go_wp2_with fail
  go_region_held3 (fun w' => w'.cell? ⟨w.heap.size, 0, none⟩ = some (.slice AO nO cO) ∧ w'.cell? ⟨w.heap.size, 1, none⟩ = some (.slice AR nR cR) ∧ w'.cell? ⟨w1.heap.size, 0, none⟩ = some (.slice A1 n1 c1) ∧ w'.cell? ⟨w1.heap.size, 1, none⟩ = some (.slice A2 n2 c2)) (go_keep)
    (first
      | (go_at_call 35; (with_reducible refine C8.out.mono ?_); rintro e w5 ⟨v5, rfl, hb5, hg5⟩; have hS5 := HS4.out.drew.below hb5; have k1 : w5.cell? ⟨w.heap.size, 0, none⟩ = some (.slice AO nO cO) := ((hS5.rules 0 (g := w.heap.size) (t := 25) rfl).1 0).trans rfl; have k2 : w5.cell? ⟨w.heap.size, 1, none⟩ = some (.slice AR nR cR) := ((hS5.rules 0 (g := w.heap.size) (t := 25) rfl).1 1).trans rfl; have k3 : w5.cell? ⟨w1.heap.size, 0, none⟩ = some (.slice A1 n1 c1) := ((hS5.rules 2 (g := w1.heap.size) (t := 25) rfl).1 0).trans rfl; have k4 : w5.cell? ⟨w1.heap.size, 1, none⟩ = some (.slice A2 n2 c2) := ((hS5.rules 2 (g := w1.heap.size) (t := 25) rfl).1 1).trans rfl; have C12 := hide (C11.out w5 _ _ _ _ (HGD.out.below hb5) hg5); have HS5 := hide hS5; clear hS5 hb5 hg5)
      | (go_at_call 31; (with_reducible refine C12.out.mono ?_); rintro e w6 ⟨rfl, hb6⟩; have hS6 := HS5.out.below hb6; have k5 : w6.cell? ⟨w.heap.size, 0, none⟩ = some (.slice AO nO cO) := ((hS6.rules 0 (g := w.heap.size) (t := 25) rfl).1 0).trans rfl; have k6 : w6.cell? ⟨w.heap.size, 1, none⟩ = some (.slice AR nR cR) := ((hS6.rules 0 (g := w.heap.size) (t := 25) rfl).1 1).trans rfl; have k7 : w6.cell? ⟨w1.heap.size, 0, none⟩ = some (.slice A1 n1 c1) := ((hS6.rules 2 (g := w1.heap.size) (t := 25) rfl).1 0).trans rfl; have k8 : w6.cell? ⟨w1.heap.size, 1, none⟩ = some (.slice A2 n2 c2) := ((hS6.rules 2 (g := w1.heap.size) (t := 25) rfl).1 1).trans rfl; have HS6 := hide hS6; clear hS6 hb6))
  all_goals
    by_cases hzz : z = 0
    · have C13 := hide (C10.out w6 HS6.out.below_ hzz)
      have htel := HTEL.out
      rw [if_pos hzz] at htel
      have HT := hide htel
      obtain ⟨j1, j2, j3, j4⟩ := HS6.out.rules 1 (g := w.heap.size + 1) (t := 25) rfl
      subst hzz
      clear htel C10 C11 C12 C8 HTEL j4
      cases b with
      | true =>
        go_wp2_with fail
        refine C13.out.mono ?_
        rintro e w7 ⟨b7, rfl, ht7, hb7⟩
        have HB7 := hide (HS6.out.below hb7).below_
        obtain rfl : b7 = true := ht7.2 (HT.out.1 rfl)
        clear hb7 ht7
        go_wp2_with fail
        go_ret
        exact ⟨rfl, HB7.out⟩
      | false =>
        go_wp2_with fail
        refine C13.out.mono ?_
        rintro e w7 ⟨b7, rfl, ht7, hb7⟩
        have HB7 := hide (HS6.out.below hb7).below_
        obtain rfl : b7 = false := by
          cases b7 with
          | false => rfl
          | true => exact absurd (HT.out.2 (ht7.1 rfl)) (by simp)
        clear hb7 ht7
        go_wp2_with fail
        go_ret
        exact ⟨rfl, HB7.out⟩
    · have htel := HTEL.out
      rw [if_neg hzz] at htel
      subst htel
      have y1 : (z != 0) = true := by rw [bne_iff_ne]; exact hzz
      have HB6 := hide HS6.out.below_
      clear C10 C11 C12 C8 HTEL hzz
      go_wp2_with fail
      go_ret
      exact ⟨rfl, HB6.out⟩
theorem graphCanons_walk (w : World) (AO AR BO BR : Option Addr) (nO cO nR cR mO dO mR dR : Nat) (oa ob : List Ob) (ra rb : List Val) (hO : ObsRd w (fun _ => True) AO nO oa) (hR : Rd w (fun _ => True) 2 AR nR (vals ra)) (hO' : ObsRd w (fun _ => True) BO mO ob) (hR' : Rd w (fun _ => True) 2 BR mR (vals rb)) :
    Calls Try.prog 9 #[.agg #[.slice AO nO cO, .slice AR nR cR], .agg #[.slice BO mO dO, .slice BR mR dR]] w fun e w' => e = .returned (.bool true) ∧ Below w.heap.size w w' := by
  by_cases hz : gcheck nO nR oa ra = 0
  · exact graphCanons_half w AO AR BO BR nO cO nR cR mO dO mR dR oa ob ra rb hO hR hO' hR' hz
  · exact graphCanons_no w AO AR BO BR nO cO nR cR mO dO mR dR oa ob ra rb hO hR hO' hR' hz
end Go.Proofs.Ytaajkldhnjoicaa
