/- Weak references: what keeps on from some values. Weak references: the kinds' test, the list, and what is kept of a graph. Weak references: the reference's test of kinds, list, alive, keeps, Kept. -/
import Derived.Test.YtaajkldhnjoicaaGWeakTells0
import Derived.Test.YtaajkldhnjoicaaGGraphTells6
import Derived.Shelf.RegionOpen
import Derived.Test.YtaajkldhnjoicaaGGraphTells2
import Derived.Test.YtaajkldhnjoicaaGGraphTells7
import Derived.Deep.RegionHeld3
import Derived.Deep.LoopGhost
import Derived.Deep.OwnRows
import Derived.Test.YtaajkldhnjoicaaGDualTells1
set_option linter.unusedSimpArgs false
set_option linter.unusedVariables false
namespace Go.Proofs.Ytaajkldhnjoicaa
open Go.RowKit Go.Shelf
attribute [local go_sem] Oper.semAt_some

theorem permWk_ {α : Type} (a b c d : α) : [a, b, c, d].Perm [a, c, b, d] := (List.Perm.swap c b [d]).cons a
def wmIt (gb gm n : Nat) (s : List Bool × Bool) : Item := allI [wkIt gb n s.1, blkI gm 4 #[.bool s.2]]
theorem wmIt_tame (B gb gm n : Nat) (s : List Bool × Bool) : Tame B (wmIt gb gm n s) := Tame.all fun i hi => by
  simp only [List.mem_cons, List.not_mem_nil, or_false] at hi
  rcases hi with rfl | rfl
  · exact Tame.row _ _ _ _ _ _ _
  · exact Tame.blk _ _ _ _
theorem wmIt_fp {gb gm n : Nat} {s : List Bool × Bool} {k : Nat} : (wmIt gb gm n s).fp k ↔ k = gb ∨ k = gm := by
  simp only [wmIt, allI, List.mem_cons, List.not_mem_nil, or_false]
  constructor
  · rintro ⟨i, rfl | rfl, h⟩
    · exact .inl (wkIt_fp.1 h)
    · exact .inr h
  · rintro (h | h)
    · exact ⟨_, .inl rfl, wkIt_fp.2 h⟩
    · exact ⟨_, .inr rfl, h⟩
def WkC (Bt gb : Nat) (AO AR AK : Option Addr) (nO cO nR cR cK : Nat) (obs : List Ob) (ks : List Int) (gs : List (List Val)) (roots : List Val) (m : Nat) : Prop :=
  ∀ (w : World) (A : Option Addr) (n c : Nat) (vs : List Val) (b : List Bool), WkM Bt gb AO AR AK nO cO nR cR cK obs ks w → (wkIt gb nO b).P w → b.length = nO → Sound gs ks roots nO (bp b) → n ≤ 100 → ValsOk nO vs → Rd w (fun k => k ≠ gb) 2 A n (vals vs) → (∀ y ∈ tgts vs, Kep gs ks roots y.toNat) → un nO b ≤ m →
    Calls Try.prog 135 #[.pointer (some ⟨Bt, 0, none⟩), .slice A n c] w fun e w' => ∃ b2 more, e = .returned (.bool more) ∧ KeL gs ks roots nO (tgts vs) b b2 more ∧ Sep (wkIt gb nO b).fp w w' [wkIt gb nO b2]

set_option maxRecDepth 100000 in
set_option maxHeartbeats 8000000 in
theorem wkeep_step (Bt gb : Nat) (AO AR AK : Option Addr) (nO cO nR cR cK : Nat) (obs : List Ob) (ks : List Int) (gs : List (List Val)) (roots : List Val) (h3 : obs.map Ob.fields = gs) (hfl : ∀ o ∈ obs, o.n ≤ 4) (hcp : Caps obs) (hn : nO ≤ 24) (hk : ks.length = nO) (hv : ∀ x : Int, ValsOk nO (fieldsI gs x)) (m : Nat) (ih : ∀ k, m = k + 1 → WkC Bt gb AO AR AK nO cO nR cR cK obs ks gs roots k) : WkC Bt gb AO AR AK nO cO nR cR cK obs ks gs roots m := by
  intro w A n c vs b hM hP hbl hsd hnv hvs hR hkp hun
  obtain ⟨F, hF⟩ : ∃ F, (wkIt gb nO b).fp = F := ⟨_, rfl⟩
  have hFk : ∀ k, F k → k = gb := fun k hk => by rw [← hF] at hk; exact wkIt_fp.1 hk
  have hS1 := ((Sep.start hP).blkAt 136 #[.pointer (some ⟨Bt, 0, none⟩)] (g := w.heap.size) rfl).blkAt 4 #[.bool false] (g := w.heap.size + 1) (by simp)
  rw [hF] at hS1 ⊢
  have CS := hide (fun (w' : World) (hM : WkM Bt gb AO AR AK nO cO nR cR cK obs ks w') (bs : List Bool) (hP : (wkIt gb nO bs).P w') (z : Nat) (hz : z < nO) => strong_any w' Bt gb AO AR AK nO cO nR cR cK obs ks bs z gs h3 hfl hcp hM hP hn hz hk hv)
  have HFK := hide hFk
  have HM := hide hM
  have HBL := hide hbl
  have HSD := hide hsd
  have HVS := hide hvs
  have HR := hide hR
  have HKP := hide hkp
  have HUN := hide hun
  have HV := hide hv
  have HIH := hide ih
  have HS1 := hide hS1
  clear hF hFk hP hM hbl hsd hvs hR hkp hun hv ih h3 hfl hcp hk hS1
  refine (callsIn_wide (n := 10)).1 ?_
  refine callsIn_of_wp_calm Try.func135 rfl trivial ?_ rfl
  simp only [Try.ntmps135, List.size_toArray, List.length_cons, List.length_nil, Nat.reduceAdd, Nat.reduceSub, Array.replicate_succ, Array.replicate_zero, List.push_toArray, List.append_toArray, List.nil_append, List.cons_append]
  gi_wp2_with (refine ⟨trivial, ?_⟩; gi_at_call 69; refine (targets_in Fence.wide 9 trivial rfl _ _ _ _).mono ?_; rintro e w2 ⟨rfl, rfl⟩)
  have hS2 := ((HS1.out.blkAt 23 #[.slice A n c] (g := w.heap.size + 1 + 1) (by simp)).perm (permWk_ _ _ _ _)).join (l := [_, _]) (l' := [_, _])
  have hBB : Below w.heap.size w ((w.alloc (.cells #[.pointer (some ⟨Bt, 0, none⟩)] 136)).alloc (.cells #[.bool false] 4)) := ((Below.refl _ w).alloc (Nat.le_refl _) _).alloc (by simp) _
  have hBC := hBB.alloc (by simp; omega) (.cells #[.slice A n c] 23)
  have hHI := HS1.out.hi 0 rfl gb (wkIt_fp.2 rfl)
  refine wpIn_tgt (n := 10) rfl (by omega) trivial (w.heap.size + 1 + 1) (by rfl) (by rfl) (wmIt gb (w.heap.size + 1) nO) (b, false) (vs := vs) (by omega) (hS2.get 2 rfl) (hS2.other (a := 2) (b := 0) rfl rfl (by omega) _ rfl)
      ?hrd (fun pre s => KeL gs ks roots nO pre b s.1 s.2) (fun _ _ _ => False) (fun s => wmIt_tame _ _ _ _ s) (KeL.start HBL.out HSD.out) (hS2.get 0 rfl) ?a1 ?assign ?body ?done ?stop
  case hrd =>
    exact ((HR.out.more (D' := fun k => k ≠ gb ∧ k < w.heap.size) (fun k hk hd => ⟨hd, hk⟩)).below hBC).more (fun g _ hg hf => by
      rcases wmIt_fp.1 hf with h | h
      · exact hg.1 h
      · have := hg.2; omega)
  case assign =>
    intro l x W K hK
    gi_wp2
    exact hK
  case stop =>
    rintro Dd c pre s W hD hpre hF
    exact hF.elim
  case body =>
    rintro lo pre x ⟨b1, mo⟩ W hx hpre hlen hI hP2
    dsimp only at hI
    obtain ⟨x0, x1⟩ := HVS.out _ (tgts_mem.1 hx) rfl
    dsimp only at x0 x1
    have hkz := HKP.out x hx
    obtain ⟨z, rfl⟩ := int_nat x0
    have hz : z < nO := by omega
    rw [show ((z : Int)).toNat = z from by omega] at hkz
    have hpr : ∀ y ∈ pre, 0 ≤ y ∧ y < (nO : Int) := fun y hy => HVS.out _ (tgts_mem.1 (hpre y hy)) rfl
    have hSW := hS2.call 0 rfl hP2
    have hMW := HM.out.chg hSW.bel HFK.out
    obtain ⟨d1, d2, d3⟩ := hMW.b.rules
    have d5 := (d1 3).trans (show _ = some (.slice (some ⟨gb, 0, none⟩) nO nO) from rfl)
    obtain ⟨f1, f2⟩ := bls_cellAt (hSW.split.get 0 rfl) z hz
    obtain ⟨p1, p2, p3, p4⟩ := hSW.rules 1 (g := w.heap.size) (t := 136) rfl
    have p5 := p1 0
    obtain ⟨y, hy⟩ : ∃ y, b1.getD z false = y := ⟨_, rfl⟩
    rw [hy] at f1
    cases y with
    | true =>
      have HI2 := hide (hI.had (z := (z : Int)) (show bp b1 ((z : Int)).toNat = true from hy))
      have HP2 := hide (Sep.start (hP2.get 0 rfl))
      clear hx hpre hlen hI hP2 x0 x1 hSW hMW d1 p1 p4 hy hpr hkz hS2 hBB hBC
      gi_wp2
      exact ⟨(b1, mo), HI2.out, HP2.out⟩
    | false =>
      have hzl : z < b1.length := by rw [hI.len]; exact hz
      obtain ⟨m', hm'⟩ : ∃ m', m = m' + 1 := ⟨m - 1, by have := un_pos (n := nO) (b := b1) hz hy; have := hI.un_le; have := HUN.out; omega⟩
      subst hm'
      have hun2 : un nO (b1.set z true) ≤ m' := by
        have h1 := un_set hzl hz (show bp b1 z = false from hy)
        have := hI.un_le
        have := HUN.out
        omega
      have hsd2 : Sound gs ks roots nO (bp (b1.set z true)) := hI.snd.set_ hzl hkz
      have hP3 := (((Sep.start (hP2.get 0 rfl)).flat.store 0 (g := gb) rfl z (.bool true)).fold)
      rw [bls_set] at hP3
      have hSW2 := hSW.call 0 rfl hP3
      have hMD := (HM.out.chg hSW2.bel HFK.out).below (Below.refl _ _).drew
      have hWD : (wkIt gb nO (b1.set z true)).P (W.setCell ⟨gb, z, none⟩ (.bool true)).drew := hP3.flat.drew.get 0 rfl
      have CS2 := hide (CS.out _ hMD _ hWD z hz)
      obtain ⟨W3, hW3⟩ : ∃ W3, W.setCell ⟨gb, z, none⟩ (.bool true) = W3 := ⟨_, rfl⟩
      obtain ⟨r1, r2, r3, r4⟩ := hSW2.rules 1 (g := w.heap.size) (t := 136) rfl
      have r5 := r1 0
      have r6 := hP3.flat.hi 1 rfl (w.heap.size + 1) rfl
      have hgbW := hSW.split.hi 0 rfl gb (wkIt_fp.2 rfl)
      rw [hW3] at hMD hWD CS2 hSW2 hP3 r1 r2 r3 r5 r6
      have HMD := hide hMD
      have HSW2 := hide hSW2
      have HWD := hide hWD
      have HSD2 := hide hsd2
      have HL2 := hide (show (b1.set z true).length = nO by rw [List.length_set]; exact hI.len)
      have HU2 := hide hun2
      have HTG := hide (hsd2.strong HV.out hkz)
      have HSO := hide (strong_ok (ks := ks) (p := bp (b1.set z true)) HV.out z)
      have CK := hide (fun (w5 : World) (hb5 : Below W3.drew.heap.size W3.drew w5) (A5 : Option Addr) (m5 c5 : Nat) (hm5 : m5 ≤ 4) (hr5 : Rd w5 (fun k => k ≠ gb) 2 A5 m5 (vals (strongB ks (bp (b1.set z true)) z (fieldsI gs (z : Int))))) => HIH.out m' rfl w5 A5 m5 c5 _ (b1.set z true) (HMD.out.below hb5) (HWD.out |> fun h => (Sep.start h).below hb5 |>.get 0 rfl) HL2.out HSD2.out (by omega) HSO.out hr5 HTG.out HU2.out)
      have HST := hide (fun b2 m2 (c : KeL gs ks roots nO (tgts (strongB ks (bp (b1.set z true)) z (fieldsI gs (z : Int)))) (b1.set z true) b2 m2) => hI.step hz (show bp b1 z = false from hy) hpr c)
      have HP3 := hide hP3
      have hmx : Try.prog.follows .mixedOrders = true := by kernel_rfl
      have HW3 := hide hW3
      clear hx hpre hlen hI hP2 x0 x1 hSW hMW d1 p1 p4 hy hpr hkz hS2 hBB hBC hP3 hSW2 hMD hWD hsd2 hun2 hzl r1 r4 hW3
      gi_wp2
      rw [HW3.out]
      gi_region_with_o (first
        | (refine ⟨trivial, ?_⟩; gi_at_call 136; (with_reducible refine (CallsIn.inRound lo (callsIn_wide.2 CS2.out)).mono ?_); rintro e w5 ⟨A5, m5, c5, rfl, hm5, hr5, hb5⟩; have CK2 := hide (CK.out w5 hb5 A5 m5 c5 hm5 hr5); have u5 := ((HSW2.out.drew.below hb5).rules 1 (g := w.heap.size) (t := 136) rfl).1 0; have HB5 := hide hb5; clear hm5 hr5 hb5)
        | (refine ⟨trivial, ?_⟩; gi_at_call 135; (with_reducible refine (CallsIn.inRound lo (callsIn_wide.2 CK2.out)).mono ?_); rintro e w6 ⟨b2, m2, rfl, hk2, hP6⟩; have HK2 := hide hk2; have HP6 := hide hP6; clear hk2 hP6))
      all_goals
        have h6 := (HP3.out.flat.drew.below HB5.out).call 0 rfl HP6.out
        obtain ⟨q1, q2, q3, q4⟩ := h6.rules 1 (g := w.heap.size + 1) (t := 4) rfl
        have HF6 := hide (h6.set_ 1 (g := w.heap.size + 1) (t := 4) rfl 0 (.bool true)).fold
        have HKS := hide (HST.out _ _ HK2.out)
        have q5 := (q1 0).trans (show _ = some (.bool mo) from rfl)
        have q6 := q2 0
        clear h6 q1 q4
        gi_wp2
        exact ⟨(b2, true), HKS.out, HF6.out⟩
  case done =>
    rintro Dd ⟨b1, mo⟩ W hD hI hP2 hK
    dsimp only at hI
    have HI := hide hI
    have hCL : Colls w.heap.size W [{ target := .collected Dd, args := #[] }] := ⟨Dd, rfl, by simp at hD; omega, hK, by simp, trivial⟩
    have hSW := hS2.call 0 rfl hP2
    obtain ⟨d1, d2, d3, d4⟩ := hSW.split.rules 1 (g := w.heap.size + 1) (t := 4) rfl
    have d5 := d1 0
    have HSW := hide hSW
    clear hI hP2 hSW hS2 d1 d4
    gi_wp2
    refine collsOff (B := w.heap.size) (u := .returning) (by simp) _ _ hCL ?_
    intro w' c1 c2 c3 c4 c5 c6
    have hSw := (HSW.out.split.sub (l := [wkIt gb nO b1]) (by simp)).closed (B := w.heap.size) (fun i hi => by
      obtain rfl : i = _ := by simpa using hi
      exact Tame.row _ _ _ _ _ _ _) (Nat.le_refl _) c1 c2 c3 c4 c5 c6
    refine ⟨.bool mo, by simp [results, Try.f135, go_sem], b1, ?_⟩
    cases mo with
    | false => exact .inl ⟨rfl, HI.out, hSw⟩
    | true => exact .inr ⟨rfl, HI.out, hSw⟩
theorem wkeep_any (Bt gb : Nat) (AO AR AK : Option Addr) (nO cO nR cR cK : Nat) (obs : List Ob) (ks : List Int) (gs : List (List Val)) (roots : List Val) (h3 : obs.map Ob.fields = gs) (hfl : ∀ o ∈ obs, o.n ≤ 4) (hcp : Caps obs) (hn : nO ≤ 24) (hk : ks.length = nO) (hv : ∀ x : Int, ValsOk nO (fieldsI gs x)) (m : Nat) : WkC Bt gb AO AR AK nO cO nR cR cK obs ks gs roots m := by
  induction m with
  | zero => exact wkeep_step Bt gb AO AR AK nO cO nR cR cK obs ks gs roots h3 hfl hcp hn hk hv 0 (fun k h => by omega)
  | succ m ih => exact wkeep_step Bt gb AO AR AK nO cO nR cR cK obs ks gs roots h3 hfl hcp hn hk hv (m + 1) (fun k h => by obtain rfl : m = k := (by omega); exact ih)
end Go.Proofs.Ytaajkldhnjoicaa

namespace Go.Proofs.Ytaajkldhnjoicaa
open Go.RowKit Go.Shelf

def badK (x : Int) : Bool := decide (x < 0) || decide (2 < x)
set_option maxHeartbeats 400000 in
theorem weakBad_any (w : World) (x : Int) : Calls Try.prog 134 #[.int .i64 x] w fun e w' => e = .returned (.bool (badK x)) ∧ w' = w := by
  unfold badK
  by_cases h1 : x < 0
  · have t1 : decide (x < 0) = true := by simp [h1]
    clear h1
    go_enter Try.func134, Try.ntmps134
    go_wp2_with fail
    go_ret
    exact ⟨ret_bool (by rw [t1]; rfl), rfl⟩
  · have t1 : decide (x < 0) = false := by simp only [h1, decide_false]
    clear h1
    go_enter Try.func134, Try.ntmps134
    go_wp2_with fail
    go_ret
    exact ⟨ret_bool (by rw [t1]; rfl), rfl⟩
set_option maxHeartbeats 800000 in
theorem weakIndex_any (w : World) (A : Option Addr) (n c : Nat) (l : List Int) (hn : n ≤ 1000) (h : Rd w (fun _ => True) 1 A n (ints l)) :
    Calls Try.prog 120 #[.slice A n c, .func (.func 134) #[] #[]] w fun e w' => (∃ r : Int, e = .returned (.int .i64 r) ∧ (0 ≤ r ↔ ∃ x ∈ l, badK x = true)) ∧ w' = w := by
  have HL := hide (show l.length = n by have := h.1; simpa using this)
  go_enter Try.func120, Try.ntmps120
  go_wp2_with fail
  go_loop [5, 8] (fun _ i => ∃ k : Nat, k ≤ n ∧ i = .int .i64 k ∧ Hid (∀ t ∈ l.take k, badK t = false)) (fun _ i => n - (intOf i).toNat)
  case atStart => exact ⟨0, by omega, rfl, by simp [Hid]⟩
  case round =>
    obtain ⟨k, hk, rfl, hnot⟩ := hrel
    by_cases hlt : k < n
    · obtain ⟨ad, rfl, _, _, hc⟩ := h.at_ hlt
      have hkl : k < l.length := by rw [HL.out]; exact hlt
      have hcell := hc _ (ints_get' l k hkl)
      have HM := hide (List.getElem_mem hkl)
      have HT := hide (List.take_succ_eq_append_getElem hkl)
      obtain ⟨x, hx⟩ : ∃ x, l[k] = x := ⟨_, rfl⟩
      rw [hx] at hcell HM HT
      clear hc hx
      go_wp2_with fail
      refine (weakBad_any _ x).mono ?_
      rintro e w1 ⟨rfl, rfl⟩
      cases hq : badK x with
      | true =>
        have HQ := hide hq
        clear hq
        go_wp2_with fail
        go_ret
        exact ⟨⟨k, rfl, ⟨fun _ => ⟨x, HM.out, HQ.out⟩, fun _ => by omega⟩⟩, rfl⟩
      | false =>
        have HQ := hide hq
        clear hq
        go_wp2_with fail
        go_round
        case rel => exact ⟨k + 1, by omega, by go_num, by
          have h1 := hnot.out
          have h2 := HQ.out
          show ∀ t ∈ l.take (k + 1), badK t = false
          rw [HT.out]
          intro t ht
          rcases List.mem_append.1 ht with h3 | h3
          · exact h1 t h3
          · simp only [List.mem_singleton] at h3; subst h3; exact h2⟩
        case measure => simp [intOf]; omega
    · go_wp2_with fail
      go_ret
      have h1 := hnot.out
      rw [List.take_of_length_le (by rw [HL.out]; omega)] at h1
      exact ⟨⟨-1, rfl, ⟨fun h => by omega, fun ⟨t, ht, htx⟩ => by rw [h1 t ht] at htx; cases htx⟩⟩, rfl⟩
theorem weakContains_any (w : World) (A : Option Addr) (n c : Nat) (l : List Int) (hn : n ≤ 1000) (h : Rd w (fun _ => True) 1 A n (ints l)) :
    Calls Try.prog 74 #[.slice A n c, .func (.func 134) #[] #[]] w fun e w' => e = .returned (.bool (l.any badK)) ∧ w' = w := by
  go_enter Try.func74, Try.ntmps74
  go_wp2_with fail
  refine (weakIndex_any w A n c l hn h).mono ?_
  rintro e w1 ⟨⟨r, rfl, hr⟩, rfl⟩
  have HB := hide (show l.any badK = decide (0 ≤ r) by
    rw [Bool.eq_iff_iff]; simp only [List.any_eq_true, decide_eq_true_eq]; exact hr.symm)
  clear hr
  go_wp2_with fail
  go_ret
  exact ⟨ret_bool HB.out.symm, rfl⟩
theorem badK_any (l : List Int) : l.any badK = true ↔ ¬ ∀ x ∈ l, x = 0 ∨ x = 1 ∨ x = 2 := by
  rw [List.any_eq_true]
  constructor
  · rintro ⟨x, hx, hb⟩ h
    have := h x hx
    unfold badK at hb
    simp at hb
    omega
  · intro h
    obtain ⟨x, hx⟩ := Classical.not_forall.1 h
    obtain ⟨hx1, hx2⟩ := Classical.not_imp.1 hx
    refine ⟨x, hx1, ?_⟩
    unfold badK
    simp
    omega

set_option maxRecDepth 100000 in
set_option maxHeartbeats 4000000 in
theorem wlist_any (w : World) (Bt gb nO : Nat) (C : Array Value) (b : List Bool) (hC : C[3]? = some (.slice (some ⟨gb, 0, none⟩) nO nO)) (hB : Blk w Bt 175 C) (hP : (wkIt gb nO b).P w) (hn : nO ≤ 24) :
    Calls Try.prog 103 #[.pointer (some ⟨Bt, 0, none⟩)] w fun e w' => ∃ A m c, e = .returned (.slice A m c) ∧ m ≤ nO ∧ Sep No w w' [rowI 3 1 A m c (ints (filt (bp b) nO))] := by
  obtain ⟨c1, c2, c3⟩ := hB.rules
  have c4 := (c1 3).trans hC
  have HP := hide hP
  have HS0 := hide ((Sep.nil No w).nilRow 3 1)
  clear hB hP c1
  go_enter Try.func103, Try.ntmps103
  go_wp2_with fail
  go_loopw [3, 11] (fun s3 s wr => ∃ (k m c : Nat) (A : Option Addr), k ≤ nO ∧ s = .int .i64 k ∧ s3 = .slice A m c ∧ m ≤ k ∧ Sep No w wr [rowI 3 1 A m c (ints (filt (bp b) k))]) (fun _ s _ => nO - (intOf s).toNat)
  case atStart => exact ⟨0, 0, 0, none, by omega, rfl, rfl, by omega, HS0.out⟩
  case round =>
    clear HS0 c2 c3 c4
    obtain ⟨k, m, c, A, hk, rfl, rfl, hm, hS⟩ := hrel
    by_cases hlt : k < nO
    · obtain ⟨f1, f2⟩ := bls_cellAt ((Sep.start HP.out).below hS.below_ |>.get 0 rfl) k hlt
      have HU := hide (filt_succ (bp b) k)
      have HBP := hide (show bp b k = b.getD k false from rfl)
      obtain ⟨y, hy⟩ : ∃ y, b.getD k false = y := ⟨_, rfl⟩
      rw [hy] at f1 HBP
      rw [HBP.out] at HU
      clear hy
      cases y with
      | true =>
        have HU2 := hide (HU.out.trans (show _ = filt (bp b) k ++ [(k : Int)] from by simp))
        clear HU
        go_wp2_with (first
          | (at_builtin
             refine wpList_app1 (cs := #[.int .i64 k]) rfl (.tmp 17) (.tmp 19) 35 rfl sInt hS 0 (n := m) rfl rfl rfl (by simp) rfl rfl (by omega) ?_
             intro A4 c4 w4 hS4 hC4))
        go_roundw
        case rel => exact ⟨k + 1, m + 1, c4, A4, by omega, by go_num, rfl, by omega, by rw [HU2.out, ints_snoc_]; exact hS4⟩
        case measure => simp [intOf]; omega
      | false =>
        have HU2 := hide (HU.out.trans (show _ = filt (bp b) k from by simp))
        have HS := hide hS
        clear HU hS
        go_wp2_with fail
        go_roundw
        case rel => exact ⟨k + 1, m, c, A, by omega, by go_num, rfl, by omega, by rw [HU2.out]; exact HS.out⟩
        case measure => simp [intOf]; omega
    · obtain rfl : k = nO := by omega
      have HS := hide hS
      clear hS
      go_wp2_with fail
      go_ret
      exact ⟨A, m, c, rfl, hm, HS.out⟩

theorem bool_make (n : Nat) (hn : n ≤ 1000) : ∃ M : Array Value, M.toList = bls (List.replicate n false) ∧ ∀ w : World, (Instr.makeSlice 75 (.int .i64 (n : Int)) (.int .i64 (n : Int))).run Try.prog w = .ok (.slice (some ⟨w.heap.size, 0, none⟩) n n) (w.alloc (.cells M 4)) := by
  refine ⟨madeCells #[.bool false] n, ?_, fun w => Go.run_make_row' 75 4 (.bool false) 1 Try.underlying75 bInfo rfl .i64 .i64 n (by omega) (by omega) w⟩
  have := bMade n
  simpa [Value.cells] using this

section
variable (w : World) (AO AR AK : Option Addr) (nO cO nR cR nK cK : Nat) (obs : List Ob) (roots : List Val) (ks : List Int)
/-- What is wrong with a graph and kinds; 0: nothing. -/
def wkErr (nO nR nK : Nat) (obs : List Ob) (roots : List Val) (ks : List Int) : Int := if gcheck nO nR obs roots ≠ 0 then gcheck nO nR obs roots else if nK ≠ nO then 2 else if ks.any badK = true then 5 else 0
set_option maxRecDepth 100000 in
set_option maxHeartbeats 4000000 in
theorem wopen_bad (hO : ObsRd w (fun _ => True) AO nO obs) (hR : Rd w (fun _ => True) 2 AR nR (vals roots)) (hK : Rd w (fun _ => True) 1 AK nK (ints ks)) (hz : wkErr nO nR nK obs roots ks ≠ 0) :
    Calls Try.prog 102 #[.agg #[.slice AO nO cO, .slice AR nR cR], .slice AK nK cK] w fun e w' => e = .returned (.tuple #[.pointer none, .int .i64 (wkErr nO nR nK obs roots ks)]) ∧ Below w.heap.size w w' := by
  have hS0 := (Sep.nil No w).blkAt 25 #[.slice AO nO cO, .slice AR nR cR] rfl
  obtain ⟨a1, a2, a3, a4⟩ := hS0.rules 0 (g := w.heap.size) (t := 25) rfl
  have C1 := hide (graphCheck_any _ AO AR nO cO nR cR obs roots (hO.below hS0.below_) (hR.below hS0.below_))
  have HG := hide (fun hz => (gok_of hO (nR := nR) (roots := roots) hz).nO_)
  have HS0 := hide hS0
  have HK := hide hK
  unfold wkErr at hz ⊢
  clear hS0 a4 hO hR hK
  by_cases h1 : gcheck nO nR obs roots = 0
  · rw [h1] at C1
    simp only [h1] at hz ⊢
    have hn := HG.out h1
    by_cases h2 : nK = nO
    · subst h2
      simp only [ne_eq, not_true_eq_false, if_false] at hz ⊢
      have hb : ks.any badK = true := by
        by_cases e : ks.any badK = true
        · exact e
        · rw [if_neg e] at hz; exact absurd rfl hz
      rw [if_pos hb]
      have C2 := hide (fun w' hb => weakContains_any w' AK nK cK ks (by omega) (HK.out.below hb))
      simp only [hb] at C2
      clear hz h1 hb
      go_enter Try.func102, Try.ntmps102
      go_wp2_with fail
      refine C1.out.mono ?_
      rintro e w1 ⟨rfl, hb1⟩
      have hS1 := HS0.out.below hb1
      obtain ⟨b1, b2, b3, b4⟩ := hS1.rules 0 (g := w.heap.size) (t := 25) rfl
      have b5 := b1 0
      have C3 := hide (C2.out w1 hS1.below_)
      have HB1 := hide hS1.below_
      clear hb1 hS1 HS0 C1 C2 a1 a2 a3 b1 b4
      go_wp2_with fail
      refine C3.out.mono ?_
      rintro e w2 ⟨rfl, rfl⟩
      go_wp2_with fail
      go_ret2
      exact ⟨rfl, HB1.out⟩
    · have y1 : ((nK : Int) != (nO : Int)) = true := by rw [bne_iff_ne]; omega
      have y2 : (nK != nO) = true := by rw [bne_iff_ne]; omega
      simp only [ne_eq, not_true_eq_false, if_false, h2, not_false_eq_true, if_true]
      clear hz h1 h2
      go_enter Try.func102, Try.ntmps102
      go_wp2_with fail
      refine C1.out.mono ?_
      rintro e w1 ⟨rfl, hb1⟩
      have hS1 := HS0.out.below hb1
      obtain ⟨b1, b2, b3, b4⟩ := hS1.rules 0 (g := w.heap.size) (t := 25) rfl
      have b5 := b1 0
      have HB1 := hide hS1.below_
      clear hb1 hS1 HS0 C1 a1 a2 a3 b1 b4
      go_wp2_with fail
      go_ret2
      exact ⟨rfl, HB1.out⟩
  · rw [if_pos h1]
    obtain ⟨x, hx⟩ : ∃ x, gcheck nO nR obs roots = x := ⟨_, rfl⟩
    rw [hx] at C1 h1 ⊢
    have y1 : (x != 0) = true := by rw [bne_iff_ne]; exact h1
    clear hz h1 hx
    go_enter Try.func102, Try.ntmps102
    go_wp2_with fail
    refine C1.out.mono ?_
    rintro e w1 ⟨rfl, hb1⟩
    have HB1 := hide (HS0.out.below hb1).below_
    go_wp2_with fail
    go_ret2
    exact ⟨rfl, HB1.out⟩
end
end Go.Proofs.Ytaajkldhnjoicaa

namespace Go.Proofs.Ytaajkldhnjoicaa
open Go.RowKit Go.Shelf

def kErr (nO nK : Nat) (ks : List Int) : Int := if nK ≠ nO then 2 else if ks.any badK = true then 5 else 0
theorem rhead_get {p : Nat → Bool} {f : List Val} (h : 0 < f.length) : headAl p f = aliveB p f[0] := by
  cases f with
  | nil => simp at h
  | cons a t => rfl
theorem badK_false (x : Int) : badK x = false ↔ x = 0 ∨ x = 1 ∨ x = 2 := by
  unfold badK
  simp
  omega
set_option maxRecDepth 100000 in
set_option maxHeartbeats 4000000 in
theorem refKinds_any (w : World) (AO AR AK : Option Addr) (nO cO nR cR nK cK : Nat) (ks : List Int) (hn : nO ≤ 24) (hK : Rd w (fun _ => True) 1 AK nK (ints ks)) :
    Calls Try.prog 49 #[.agg #[.slice AO nO cO, .slice AR nR cR], .slice AK nK cK] w fun e w' => e = .returned (.int .i64 (kErr nO nK ks)) ∧ Below w.heap.size w w' := by
  have hS0 := (Sep.nil No w).blkAt 25 #[.slice AO nO cO, .slice AR nR cR] rfl
  obtain ⟨a1, a2, a3, a4⟩ := hS0.rules 0 (g := w.heap.size) (t := 25) rfl
  have a5 := a1 0
  have HB0 := hide hS0.below_
  have HKL := hide (show ks.length = nK by have := hK.1; simpa using this)
  have hKB := hK.below hS0.below_
  have HK := hide hKB
  unfold kErr
  clear hS0 a1 a4 hK hKB
  by_cases h2 : nK = nO
  · subst h2
    rw [if_neg (fun h => h rfl)]
    obtain ⟨y, hy⟩ : ∃ y : Int, (if ks.any badK = true then (5 : Int) else 0) = y := ⟨_, rfl⟩
    rw [hy]
    have HY := hide hy
    clear hy
    go_enter Try.func49, Try.ntmps49
    go_wp2_with fail
    go_loop [15] (fun s => ∃ k : Nat, k ≤ nK ∧ s = .int .i64 k ∧ Hid (∀ t ∈ ks.take k, badK t = false)) (fun s => nK - (intOf s).toNat)
    case atStart => exact ⟨0, by omega, rfl, by simp [Hid]⟩
    case round =>
      obtain ⟨k, hk, rfl, HN⟩ := hrel
      by_cases hlt : k < nK
      · have hkl : k < ks.length := by rw [HKL.out]; exact hlt
        obtain ⟨ad, hA, _, had, hc⟩ := HK.out.at_ hlt
        have e0 := hc _ (ints_get' ks k hkl)
        have HT := hide (List.take_succ_eq_append_getElem hkl)
        have HM := hide (List.getElem_mem hkl)
        obtain ⟨x, hx⟩ : ∃ x, ks[k] = x := ⟨_, rfl⟩
        rw [hx] at e0 HT HM
        subst hA
        clear hc hx
        by_cases hb : badK x = true
        · have HANY := hide (show y = 5 from by rw [← HY.out, if_pos (List.any_eq_true.2 ⟨x, HM.out, hb⟩)])
          have hx : ¬ (x = 0 ∨ x = 1 ∨ x = 2) := fun h => by rw [(badK_false x).2 h] at hb; cases hb
          have k0 : (x != 0) = true := by rw [bne_iff_ne]; omega
          have k1 : (x != 1) = true := by rw [bne_iff_ne]; omega
          have k2 : (x != 2) = true := by rw [bne_iff_ne]; omega
          clear hb hx
          go_wp2_with fail
          go_ret
          exact ⟨by rw [HANY.out] <;> rfl, HB0.out⟩
        · have hb2 : badK x = false := by simpa using hb
          have HN2 := hide (show ∀ t ∈ ks.take (k + 1), badK t = false from by
            rw [HT.out]
            intro t ht
            rcases List.mem_append.1 ht with h3 | h3
            · exact HN.out t h3
            · simp only [List.mem_singleton] at h3; subst h3; exact hb2)
          rcases (badK_false x).1 hb2 with rfl | rfl | rfl
          · clear hb hb2 HN HT
            go_wp2_with fail
            go_round
            case rel => exact ⟨k + 1, by omega, by go_num, HN2⟩
            case measure => simp [intOf]; omega
          · clear hb hb2 HN HT
            go_wp2_with fail
            go_round
            case rel => exact ⟨k + 1, by omega, by go_num, HN2⟩
            case measure => simp [intOf]; omega
          · clear hb hb2 HN HT
            go_wp2_with fail
            go_round
            case rel => exact ⟨k + 1, by omega, by go_num, HN2⟩
            case measure => simp [intOf]; omega
      · have HANY := hide (show y = 0 from by
          rw [← HY.out, if_neg]
          intro h
          obtain ⟨x, hx, hb⟩ := List.any_eq_true.1 h
          have h1 := HN.out x (by rw [List.take_of_length_le (by rw [HKL.out]; omega)]; exact hx)
          rw [hb] at h1; cases h1)
        clear HN
        go_wp2_with fail
        go_ret
        exact ⟨by rw [HANY.out] <;> rfl, HB0.out⟩
  · rw [if_pos h2]
    have y1 : ((nK : Int) != (nO : Int)) = true := by rw [bne_iff_ne]; omega
    have y2 : (nK != nO) = true := by rw [bne_iff_ne]; omega
    clear h2
    go_enter Try.func49, Try.ntmps49
    go_wp2_with fail
    go_ret
    exact ⟨rfl, HB0.out⟩

set_option maxRecDepth 100000 in
set_option maxHeartbeats 4000000 in
theorem refList_any (w : World) (AT : Option Addr) (nO cT : Nat) (b : List Bool) (hT : Rd w (fun _ => True) 1 AT nO (bls b)) (hn : nO ≤ 24) :
    Calls Try.prog 50 #[.slice AT nO cT] w fun e w' => ∃ A m c, e = .returned (.slice A m c) ∧ m ≤ nO ∧ Sep No w w' [rowI 3 1 A m c (ints (filt (bp b) nO))] := by
  have HBL := hide (show b.length = nO by have := hT.1; simpa [bls] using this)
  have HT := hide hT
  have HS0 := hide ((Sep.nil No w).nilRow 3 1)
  clear hT
  go_enter Try.func50, Try.ntmps50
  go_wp2_with fail
  go_loopw [3, 8] (fun s3 s wr => ∃ (k m c : Nat) (A : Option Addr), k ≤ nO ∧ s = .int .i64 k ∧ s3 = .slice A m c ∧ m ≤ k ∧ Sep No w wr [rowI 3 1 A m c (ints (filt (bp b) k))]) (fun _ s _ => nO - (intOf s).toNat)
  case atStart => exact ⟨0, 0, 0, none, by omega, rfl, rfl, by omega, HS0.out⟩
  case round =>
    clear HS0
    obtain ⟨k, m, c, A, hk, rfl, rfl, hm, hS⟩ := hrel
    by_cases hlt : k < nO
    · obtain ⟨bd, hBT, _, hbd, hbc⟩ := (HT.out.below hS.below_).at_ hlt
      have f1 := hbc _ (bls_get b k (by rw [HBL.out]; exact hlt))
      have HU := hide (filt_succ (bp b) k)
      have HBP := hide (show bp b k = b.getD k false from rfl)
      obtain ⟨y, hy⟩ : ∃ y, b.getD k false = y := ⟨_, rfl⟩
      rw [hy] at f1 HBP
      rw [HBP.out] at HU
      subst hBT
      clear hy hbc
      cases y with
      | true =>
        have HU2 := hide (HU.out.trans (show _ = filt (bp b) k ++ [(k : Int)] from by simp))
        clear HU
        go_wp2_with (first
          | (at_builtin
             refine wpList_app1 (cs := #[.int .i64 k]) rfl (.tmp 14) (.tmp 16) 35 rfl sInt hS 0 (n := m) rfl rfl rfl (by simp) rfl rfl (by omega) ?_
             intro A4 c4 w4 hS4 hC4))
        go_roundw
        case rel => exact ⟨k + 1, m + 1, c4, A4, by omega, by go_num, rfl, by omega, by rw [HU2.out, ints_snoc_]; exact hS4⟩
        case measure => simp [intOf]; omega
      | false =>
        have HU2 := hide (HU.out.trans (show _ = filt (bp b) k from by simp))
        have HS := hide hS
        clear HU hS
        go_wp2_with fail
        go_roundw
        case rel => exact ⟨k + 1, m, c, A, by omega, by go_num, rfl, by omega, by rw [HU2.out]; exact HS.out⟩
        case measure => simp [intOf]; omega
    · obtain rfl : k = nO := by omega
      have HS := hide hS
      clear hS
      go_wp2_with fail
      go_ret
      exact ⟨A, m, c, rfl, hm, HS.out⟩

set_option maxRecDepth 100000 in
set_option maxHeartbeats 4000000 in
theorem refAlive_any (w : World) (AT : Option Addr) (nO cT : Nat) (b : List Bool) (v : Val) (hT : Rd w (fun _ => True) 1 AT nO (bls b)) (hn : nO ≤ 24) (hv : v.1 = true → 0 ≤ v.2 ∧ v.2 < (nO : Int)) :
    Calls Try.prog 107 #[.agg #[.bool v.1, .int .i64 v.2], .slice AT nO cT] w fun e w' => e = .returned (.bool (aliveB (bp b) v)) ∧ Below w.heap.size w w' := by
  obtain ⟨bv, m⟩ := v
  dsimp only at hv
  have hB0 : Below w.heap.size w (w.alloc (.cells #[.bool bv, .int .i64 m] 86)) := (Below.refl _ w).alloc (Nat.le_refl _) _
  have HB := hide hB0
  have HBL := hide (show b.length = nO by have := hT.1; simpa [bls] using this)
  cases bv with
  | false =>
    clear hB0
    go_enter Try.func107, Try.ntmps107
    go_wp2_with fail
    go_ret
    exact ⟨rfl, HB.out⟩
  | true =>
    obtain ⟨m0, m1⟩ := hv rfl
    obtain ⟨z, rfl⟩ := int_nat m0
    have hz : z < nO := by omega
    obtain ⟨bd, hBT, _, hbd, hbc⟩ := (hT.below hB0).at_ hz
    have f1 := hbc _ (bls_get b z (by rw [HBL.out]; exact hz))
    have HY := hide (show aliveB (bp b) (true, (z : Int)) = b.getD z false from by simp [aliveB, bp])
    obtain ⟨y, hy⟩ : ∃ y, b.getD z false = y := ⟨_, rfl⟩
    rw [hy] at f1 HY
    subst hBT
    clear hbc hB0 hy hT
    go_enter Try.func107, Try.ntmps107
    go_wp2_with fail
    go_ret
    exact ⟨by rw [HY.out] <;> rfl, HB.out⟩

set_option maxRecDepth 100000 in
set_option maxHeartbeats 8000000 in
theorem refKeeps_any (w : World) (AO AR AK AT : Option Addr) (nO cO nR cR cK cT : Nat) (obs : List Ob) (ks : List Int) (b : List Bool) (gs : List (List Val)) (i at_ : Nat) (h3 : obs.map Ob.fields = gs) (hfl : ∀ o ∈ obs, o.n ≤ 4) (hO : ObsRd w (fun _ => True) AO nO obs) (hK : Rd w (fun _ => True) 1 AK nO (ints ks)) (hT : Rd w (fun _ => True) 1 AT nO (bls b)) (hn : nO ≤ 24) (hi : i < nO) (hat : at_ < (fieldsI gs (i : Int)).length) (hv : ∀ x : Int, ValsOk nO (fieldsI gs x)) :
    Calls Try.prog 106 #[.agg #[.slice AO nO cO, .slice AR nR cR], .slice AK nO cK, .slice AT nO cT, .int .i64 i, .int .i64 at_] w fun e w' => e = .returned (.bool (keepsB ks (bp b) i at_ (fieldsI gs (i : Int)))) ∧ Below w.heap.size w w' := by
  have hS0 := (Sep.nil No w).blkAt 25 #[.slice AO nO cO, .slice AR nR cR] rfl
  obtain ⟨a1, a2, a3, a4⟩ := hS0.rules 0 (g := w.heap.size) (t := 25) rfl
  have a5 := a1 0
  obtain ⟨ad, o, hAO, had, e0, hrd, hfi, ho4, hofl⟩ := ob_at2 hO hS0.below_ h3 hfl hi
  have hvo := hv (i : Int)
  have hkl : i < ks.length := by have := hK.1; simp at this; omega
  obtain ⟨kd, hAK, _, hkd, hkc⟩ := (hK.below hS0.below_).at_ hi
  have e1 := hkc _ (ints_get' ks i hkl)
  have hka : ksA ks i = ks[i] := by unfold ksA; rw [List.getD_eq_getElem?_getD, List.getElem?_eq_getElem hkl]; rfl
  obtain ⟨kv, hkv⟩ : ∃ kv, ks[i] = kv := ⟨_, rfl⟩
  rw [hkv] at e1 hka
  rw [hfi] at hvo hat ⊢
  have HKA := hide hka
  have HB0 := hide hS0.below_
  subst hAO hAK
  by_cases h0 : kv = 0
  · subst h0
    have HX := hide (show keepsB ks (bp b) i at_ o.fields = true from by unfold keepsB; rw [HKA.out]; simp)
    clear hS0 a1 a4 hO hK hT h3 hfi hvo hkl hkc hka hkv hrd hat hv
    go_enter Try.func106, Try.ntmps106
    go_wp2_with fail
    go_ret
    exact ⟨by rw [HX.out] <;> rfl, HB0.out⟩
  · have k0 : (kv == 0) = false := by simp [h0]
    by_cases h2 : kv = 2
    · subst h2
      by_cases hz : at_ = 0
      · subst hz
        have HX := hide (show keepsB ks (bp b) i 0 o.fields = false from by unfold keepsB; rw [HKA.out]; simp)
        clear hS0 a1 a4 hO hK hT h3 hfi hvo hkl hkc hka hkv hrd hat hv
        go_enter Try.func106, Try.ntmps106
        go_wp2_with fail
        go_ret
        exact ⟨by rw [HX.out] <;> rfl, HB0.out⟩
      · have hnl : 0 < o.fields.length := by omega
        obtain ⟨fd, hA, _, hfd, hc3, hd3⟩ := (hrd.below hS0.below_).atN (k := 0) (by omega)
        obtain ⟨v0, v1⟩ := vals_at o.fields 0 hnl
        have e2 := hc3 _ v0
        have e3 := hd3 0 _ v1
        rw [show fd.add (0 * 2) = fd from by simp [Addr.add]] at e2 e3
        have hvv := hvo _ (List.getElem_mem hnl)
        have hhd : headAl (bp b) o.fields = aliveB (bp b) o.fields[0] := rhead_get hnl
        have HX := hide (show keepsB ks (bp b) i at_ o.fields = aliveB (bp b) o.fields[0] from by
          unfold keepsB; rw [HKA.out, hhd, decide_eq_true (show 0 < at_ by omega)]; simp)
        obtain ⟨v, hv0⟩ : ∃ v, o.fields[0] = v := ⟨_, rfl⟩
        rw [hv0] at e2 e3 hvv HX
        have C := hide (refAlive_any (w.alloc (.cells #[.slice (some ad) nO cO, .slice AR nR cR] 25)) AT nO cT b v (hT.below hS0.below_) hn hvv)
        obtain ⟨y, hy⟩ : ∃ y, aliveB (bp b) v = y := ⟨_, rfl⟩
        rw [hy] at C HX
        obtain ⟨bv, m⟩ := v
        dsimp only at e2 e3 C
        have t1 : (0 : Int) < (at_ : Int) := by omega
        have t2 : 0 < at_ := by omega
        have t3 : (0 : Int) < (o.n : Int) := by omega
        have t4 : 0 < o.n := by omega
        rw [hA] at e0
        clear hS0 a1 a4 hO hK hT h3 hfi hvo hkl hkc hka hkv hrd hat hv hhd hv0 hvv hA hc3 hd3 v0 v1 hy hnl hz
        go_enter Try.func106, Try.ntmps106
        go_wp2_with fail
        refine C.out.mono ?_
        rintro e w5 ⟨rfl, hb5⟩
        go_wp2_with fail
        go_ret
        exact ⟨by rw [HX.out] <;> rfl, HB0.out.trans (hb5.mono HB0.out.size)⟩
    · have k2 : (kv == 2) = false := by simp [h2]
      have HX := hide (show keepsB ks (bp b) i at_ o.fields = false from by unfold keepsB; rw [HKA.out]; simp [h0, h2])
      clear hS0 a1 a4 hO hK hT h3 hfi hvo hkl hkc hka hkv hrd hat hv
      go_enter Try.func106, Try.ntmps106
      go_wp2_with fail
      go_ret
      exact ⟨by rw [HX.out] <;> rfl, HB0.out⟩
end Go.Proofs.Ytaajkldhnjoicaa
