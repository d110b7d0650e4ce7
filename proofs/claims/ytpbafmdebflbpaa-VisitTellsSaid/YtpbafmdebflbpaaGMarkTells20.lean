/- arena.Walk of words that are objects, whatever the function that is handed in. Sweeping: mark.Sweep. Sweeping: the reference's Sweep. -/
import Derived.Test.YtpbafmdebflbpaaGMarkTells14
import Derived.Test.YtpbafmdebflbpaaGMarkTells19
import Derived.Test.YtpbafmdebflbpaaGMarkTells11
set_option linter.unusedSimpArgs false
set_option linter.unusedVariables false
namespace Go.Proofs.Ytpbafmdebflbpaa
open Go.RowKit

theorem enter_of {c : FuncId} {fn : Func} (hf : Try.prog.funcs[c]? = some fn) (hn : (fn.name == "runtime.NumGoroutine") = false) (hb : fn.body.isNone = false) (args : Array Value) (w : World) : (callFunc c args).run Try.prog w = .ok (.enter c args) w := by
  unfold callFunc
  simp [go_sem, hf]
  rw [if_neg (by simpa using hn), if_neg (by intro h; rw [h] at hb; cases hb)]
set_option maxRecDepth 100000 in
set_option maxHeartbeats 4000000 in
theorem walkV_any (c : FuncId) (hcf : ∀ (args : Array Value) (w : World), (callFunc c args).run Try.prog w = .ok (.enter c args) w) (bs : Array Value) (w : World) (Aw : Option Addr) (nw cw : Nat) (ws : List Int) (hok : ArnOk nw ws) (it0 : Item) (Φ : Nat → Item → Prop) (h0 : Φ 0 it0) (hs : it0.P w)
    (hw : Rd w (fun g => ¬ it0.fp g) 1 Aw nw (u64s ws)) (hwf : ∀ x ∈ ws, 0 ≤ x ∧ x ≤ 18446744073709551615)
    (hstep : ∀ (k : Nat) (it : Item) (w' : World), k < (parse nw ws 0).1.length → Φ k it → it.P w' → Rd w' (fun g => g < w.heap.size ∧ ¬ it0.fp g) 1 Aw nw (u64s ws) → (∀ g, it.fp g → it0.fp g ∨ w.heap.size ≤ g) →
      Calls Try.prog c (#[.int .i64 (plcN (parse nw ws 0).1 k), .agg #[.int .i64 (lenN (parse nw ws 0).1 k), .bool (hMark (ws.getD (plcN (parse nw ws 0).1 k) 0)), .int .i64 (hAge (ws.getD (plcN (parse nw ws 0).1 k) 0))]] ++ bs) w' fun e w'' => e = .returned (.bool true) ∧ ∃ it', Φ (k + 1) it' ∧ Sep it.fp w' w'' [it']) :
    Calls Try.prog 74 #[.slice Aw nw cw, .func (.func c) #[] bs] w fun e w' => e = .returned (.bool true) ∧ ∃ it', Φ (parse nw ws 0).1.length it' ∧ Sep it0.fp w w' [it'] := by
  obtain ⟨F, hF⟩ : ∃ F, it0.fp = F := ⟨_, rfl⟩
  have hS0 := Sep.start hs
  rw [hF] at hS0 hw hstep ⊢
  have hw0 : Rd w (fun g => g < w.heap.size ∧ ¬ F g) 1 Aw nw (u64s ws) := hw.more (fun g hg hn => ⟨hg, hn⟩)
  have HWL := hide hok.len
  have hn := hok.max
  have HS0 := hide hS0
  have H0 := hide h0
  have HSTEP := hide hstep
  have HOBJ := hide (fun i hi => hok.obj (i := i) hi)
  have HAT := hide (fun k hk => parse_at nw ws 0 k hok.pos hk)
  have HEND := hide (fun (k : Nat) (hk : k = (parse nw ws 0).1.length) => show ((((parse nw ws 0).1.take k).map fun p => 1 + p.2).sum) = nw from by
    subst hk
    rw [List.take_length]
    have h1 := parse_cover nw ws 0 hok.pos (by rw [hok.len]; omega) hok.ok
    have h2 := congrArg List.length h1
    rw [List.drop_zero, hok.len, List.length_flatMap] at h2
    refine Eq.trans ?_ h2.symm
    refine congrArg List.sum (List.map_congr_left fun p hp => ?_)
    obtain ⟨_, _, _, h4⟩ := parse_mem nw ws 0 p hok.pos hp
    have := hok.len
    unfold fieldsAt
    rw [List.length_cons, List.length_take, List.length_drop]
    omega)
  clear hF hs hw hS0 h0 hstep hok
  obtain ⟨pre, hpre⟩ : ∃ pre, (parse nw ws 0).1 = pre := ⟨_, rfl⟩
  rw [hpre] at HSTEP HOBJ HAT HEND ⊢
  clear hpre
  go_enter Try.func74, Try.ntmps74
  go_wp2_with fail
  go_loopw [5] (fun i wr => ∃ (at_ k : Nat) (it : Item), at_ ≤ nw ∧ i = .int .i64 at_ ∧ k ≤ pre.length ∧ Hid (at_ = ((pre.take k).map fun p => 1 + p.2).sum) ∧ Hid (Φ k it) ∧
    Sep F w wr [it]) (fun i _ => nw - (intOf i).toNat)
  case atStart => exact ⟨0, 0, it0, by omega, rfl, by omega, rfl, H0, HS0.out⟩
  case round =>
    clear HS0 H0
    obtain ⟨at_, k, it, hat, rfl, hk, HK, HPH, hS⟩ := hrel
    by_cases hlt : at_ < nw
    · have hkl : at_ < ws.length := by rw [HWL.out]; exact hlt
      have hkp : k < pre.length := by
        rcases Nat.lt_or_ge k pre.length with h | h
        · exact h
        · have := HEND.out k (by omega)
          rw [← HK.out] at this
          omega
      have hrd := hw0.chg hS.bel (fun g hF hD => hD.2 hF)
      have HRD := hide hrd
      obtain ⟨ad, hA, _, had, hc⟩ := hrd.at_ hlt
      have e0 := hc (.int .u64 ws[at_]) (by simp [u64s, List.getElem?_eq_getElem hkl])
      have hb := hwf _ (List.getElem_mem hkl)
      have hgd : ws.getD at_ 0 = ws[at_] := by rw [List.getD_eq_getElem?_getD, List.getElem?_eq_getElem hkl]; rfl
      have hpl : plcN pre k = at_ := by
        have h1 := HAT.out k hkp
        rw [plc_get hkp, Nat.zero_add] at h1
        rw [h1]; exact HK.out.symm
      obtain ⟨o1, o2, o3, o4, o5, o6, o7⟩ := HOBJ.out k hkp
      have hst := HSTEP.out k it
      have hsum : ((pre.take (k + 1)).map fun p => 1 + p.2).sum = at_ + 1 + lenN pre k := by
        rw [List.take_succ_eq_append_getElem hkp, List.map_append, List.sum_append, ← HK.out]
        have : lenN pre k = pre[k].2 := by unfold lenN; rw [List.getD_eq_getElem?_getD, List.getElem?_eq_getElem hkp]; rfl
        simp only [List.map_cons, List.map_nil, List.sum_cons, List.sum_nil]
        omega
      have HSUM := hide hsum
      rw [hpl] at o1 o2 o3 o4 hst
      rw [hgd] at o2 o3 hst
      obtain ⟨x, hx⟩ : ∃ x, ws[at_] = x := ⟨_, rfl⟩
      rw [hx] at e0 hb o2 o3 hst
      obtain ⟨len, hlen⟩ : ∃ len, lenN pre k = len := ⟨_, rfl⟩
      rw [hlen] at o3 o4 o5 hst HSUM
      obtain ⟨b1, b2⟩ := hb
      rw [hA]
      have HA := hide hA
      have C := fun w' => unheadP_ok w' x b1 b2 o2
      rw [o3] at C
      have C1 := hide C
      have HST := hide hst
      clear hc hx hgd hA C hst hsum o1 o2 o3 o6 o7 hpl hlen hrd
      go_wp2_with fail
      refine (C1.out _).mono ?_
      rintro e w1 ⟨rfl, hb1⟩
      have hS1 := (hS.below hb1).blkAt 23 #[.int .i64 len, .bool (hMark x), .int .i64 (hAge x)] rfl
      have k1 : decide ((nw : Int) - at_ ≤ len) = false := by simp; omega
      have hB2 : Below wr.heap.size wr (w1.alloc (.cells #[.int .i64 len, .bool (hMark x), .int .i64 (hAge x)] 23)) := hb1.alloc hb1.size _
      have HC := hide (HST.out _ hkp HPH.out (hS1.get 0 rfl) (HRD.out.below hB2) (fun g hg => hS1.lo 0 rfl g hg))
      clear hS HST HRD hB2
      go_wp2_with fail
      refine HC.out.mono ?_
      rintro e w3 ⟨rfl, it', hph, hP⟩
      have hS3 := hS1.call 0 rfl hP
      obtain ⟨q1, q2, q3, q4⟩ := hS3.rules 1 (g := w1.heap.size) (t := 23) rfl
      have q5 : w3.cell? ⟨w1.heap.size, 0, none⟩ = some (.int .i64 len) := by rw [q1]; rfl
      have hS4 := hS3.sub (l := [it']) (by simp)
      have HPH2 := hide hph
      clear q1 hS1 hS3 hP HC hph
      go_wp2_with fail
      go_roundw
      case rel => exact ⟨at_ + 1 + len, k + 1, it', by omega, by go_num, by omega, HSUM.out.symm, HPH2, hS4⟩
      case measure => simp [intOf]; omega
    · obtain rfl : at_ = nw := by omega
      have hkp : k = pre.length := by
        rcases Nat.lt_or_ge k pre.length with h | h
        · exfalso
          have h1 := HAT.out k h
          rw [plc_get h, Nat.zero_add, ← HK.out] at h1
          have := (HOBJ.out k h).1
          omega
        · omega
      subst hkp
      go_wp2_with fail
      go_ret
      exact ⟨rfl, it, HPH.out, hS⟩
end Go.Proofs.Ytpbafmdebflbpaa

namespace Go.Proofs.Ytpbafmdebflbpaa
open Go.RowKit

theorem addB_mem {M : Nat} {l : Blks} {a n : Nat} (h : ∀ p ∈ l, p.1 + p.2 ≤ M) (hn : a + n ≤ M) : ∀ p ∈ addB l a n, p.1 + p.2 ≤ M := by
  rcases List.eq_nil_or_concat l with rfl | ⟨r, ⟨b, m⟩, rfl⟩
  · rw [addB_new (l := []) (by simp)]
    intro p hp
    simp at hp; subst hp; exact hn
  · rw [List.concat_eq_append] at h ⊢
    by_cases e : b + m = a
    · rw [addB_join e]
      intro p hp
      rcases List.mem_append.1 hp with h1 | h1
      · exact h p (by simp [h1])
      · simp at h1; subst h1; dsimp only; omega
    · rw [addB_new (fun p hp => by
        rw [List.getLast?_concat] at hp
        injection hp with hp
        subst hp
        exact e)]
      intro p hp
      rcases List.mem_append.1 hp with h1 | h1
      · exact h p h1
      · simp at h1; subst h1; exact hn
theorem addB_length (l : Blks) (a n : Nat) : (addB l a n).length ≤ l.length + 1 := by
  rcases List.eq_nil_or_concat l with rfl | ⟨r, ⟨b, m⟩, rfl⟩
  · rw [addB_new (l := []) (by simp)]; simp
  · rw [List.concat_eq_append]
    by_cases e : b + m = a
    · rw [addB_join e]; simp
    · rw [addB_new (fun p hp => by
        rw [List.getLast?_concat] at hp
        injection hp with hp
        subst hp
        exact e)]
      simp
theorem sweepL_snoc (ws : List Int) (l : List (Nat × Nat)) (p : Nat × Nat) : sweepL ws (l ++ [p]) = sweep1 ws (sweepL ws l) p := by unfold sweepL; rw [List.foldl_append]; rfl
theorem sweepL_mem {nW : Nat} {ws : List Int} (hok : ArnOk nW ws) (k : Nat) (hk : k ≤ (parse nW ws 0).1.length) : (∀ p ∈ sweepL ws ((parse nW ws 0).1.take k), p.1 + p.2 ≤ 1000) ∧ (sweepL ws ((parse nW ws 0).1.take k)).length ≤ k := by
  induction k with
  | zero => simp [sweepL]
  | succ k ih =>
    obtain ⟨h1, h2⟩ := ih (by omega)
    obtain ⟨_, _, _, h4, _⟩ := hok.obj (i := k) (by omega)
    have hmx := hok.max
    rw [List.take_succ_eq_append_getElem (by omega), sweepL_snoc]
    have e1 : (parse nW ws 0).1[k].1 = plcN (parse nW ws 0).1 k := plc_get (by omega)
    have e2 : (parse nW ws 0).1[k].2 = lenN (parse nW ws 0).1 k := by unfold lenN; rw [List.getD_eq_getElem?_getD, List.getElem?_eq_getElem (by omega)]; rfl
    unfold sweep1
    split
    · exact ⟨h1, by omega⟩
    · refine ⟨addB_mem h1 (by rw [e1, e2]; omega), ?_⟩
      have := addB_length (sweepL ws ((parse nW ws 0).1.take k)) (parse nW ws 0).1[k].1 (1 + (parse nW ws 0).1[k].2)
      omega
theorem arn_of {w : World} {A : Option Addr} {nW c : Nat} {ws : List Int} (hW : WsIn w A nW c ws) (h1 : nW ≤ 256) (h3 : (parse nW ws 0).2 = true) : ArnOk nW ws := ⟨hW.len, h1, fun x hx => (hW.wf x hx).1, h3⟩

set_option maxRecDepth 100000 in
set_option maxHeartbeats 4000000 in
theorem walkSw_any (w : World) (bl : Nat) (Aw : Option Addr) (nw cw : Nat) (ws : List Int) (hok : ArnOk nw ws) (hs : (allI (SwI bl none 0 0 [])).P w) (hw : Rd w (fun g => ¬ (allI (SwI bl none 0 0 [])).fp g) 1 Aw nw (u64s ws)) (hwf : ∀ x ∈ ws, 0 ≤ x ∧ x ≤ 18446744073709551615) :
    Calls Try.prog 74 #[.slice Aw nw cw, .func (.func 90) #[] #[.pointer (some ⟨bl, 0, none⟩)]] w fun e w' => ∃ A n c, e = .returned (.bool true) ∧
      Sep (allI (SwI bl none 0 0 [])).fp w w' [allI (SwI bl A n c (sweepL ws (parse nw ws 0).1))] := by
  refine (walkV_any 90 (enter_of Try.func90 (by kernel_rfl) (by kernel_rfl)) #[.pointer (some ⟨bl, 0, none⟩)] w Aw nw cw ws hok (allI (SwI bl none 0 0 [])) (fun k it => ∃ A n c, it = allI (SwI bl A n c (sweepL ws ((parse nw ws 0).1.take k))) ∧ n = (sweepL ws ((parse nw ws 0).1.take k)).length) ⟨none, 0, 0, rfl, rfl⟩ hs hw hwf ?_).mono ?_
  · rintro k it w' hk ⟨A, n, c, rfl, hn⟩ hP _ _
    obtain ⟨h1, h2⟩ := sweepL_mem hok k (by omega)
    have hlen : (parse nw ws 0).1.length ≤ 256 := by
      have := hok.obj (i := k) hk
      have h5 : (parse nw ws 0).1.length ≤ ((parse nw ws 0).1.map fun p => 1 + p.2).sum := by
        generalize (parse nw ws 0).1 = m
        induction m with
        | nil => simp
        | cons a m ih => simp only [List.map_cons, List.sum_cons, List.length_cons]; omega
      have h6 := parse_sum nw ws 0 (by omega) hok.pos
      have := hok.len
      have := hok.max
      omega
    obtain ⟨o1, o2, o3, o4, o5, o6, o7⟩ := hok.obj (i := k) hk
    have hmx := hok.max
    have e1 : (parse nw ws 0).1[k].1 = plcN (parse nw ws 0).1 k := plc_get hk
    have e2 : (parse nw ws 0).1[k].2 = lenN (parse nw ws 0).1 k := by unfold lenN; rw [List.getD_eq_getElem?_getD, List.getElem?_eq_getElem hk]; rfl
    have key := sweep1_any w' bl A n c (sweepL ws ((parse nw ws 0).1.take k)) (plcN (parse nw ws 0).1 k) (lenN (parse nw ws 0).1 k) (hMark (ws.getD (plcN (parse nw ws 0).1 k) 0)) (hAge (ws.getD (plcN (parse nw ws 0).1 k) 0)) hP hn (by omega) (by omega) o5 h1
    refine key.mono ?_
    rintro e w'' ⟨A', n', c', rfl, hn', hSep⟩
    have e3 : sweepT (sweepL ws ((parse nw ws 0).1.take k)) (hMark (ws.getD (plcN (parse nw ws 0).1 k) 0)) (plcN (parse nw ws 0).1 k) (1 + lenN (parse nw ws 0).1 k) = sweepL ws ((parse nw ws 0).1.take (k + 1)) := by
      rw [List.take_succ_eq_append_getElem hk, sweepL_snoc]
      unfold sweep1 sweepT
      rw [e1, e2]
    rw [e3] at hn' hSep
    exact ⟨rfl, _, ⟨A', n', c', rfl, hn'⟩, hSep⟩
  · rintro e w' ⟨rfl, it, ⟨A, n, c, rfl, hn⟩, hS⟩
    rw [List.take_length] at hS
    exact ⟨A, n, c, rfl, hS⟩

set_option maxRecDepth 100000 in
set_option maxHeartbeats 4000000 in
theorem sweep_ok (w : World) (AW AR : Option Addr) (nW cW nR cR : Nat) (ws rs : List Int) (hW : WsIn w AW nW cW ws) (hR : WsIn w AR nR cR rs) (hz : acheck nW nR ws rs = 0) :
    Calls Try.prog 47 #[.agg #[.slice AW nW cW, .slice AR nR cR]] w fun e w' => ∃ A n c, e = .returned (.tuple #[.slice A n c, .int .i64 0]) ∧ Sep No w w' [rowI 155 2 A n c (blks (sweepL ws (parse nW ws 0).1))] := by
  obtain ⟨h1, h2, h3, h4⟩ := acheck_zero hz
  have hok := arn_of hW h1 h3
  have hS0 := (Sep.nil No w).blkAt 55 #[.slice AW nW cW, .slice AR nR cR] rfl
  obtain ⟨a1, a2, a3, a4⟩ := hS0.rules 0 (g := w.heap.size) (t := 55) rfl
  have HS0 := hide hS0
  have C1 := hide (arenaCheck_any _ AW AR nW cW nR cR ws rs (hW.below hS0.below_) (hR.below hS0.below_))
  rw [hz] at C1
  have C2 := hide (fun w' bl hs hw => walkSw_any w' bl AW nW cW ws hok hs hw hW.wf)
  have HW := hide hW
  clear hS0 hz h3 h4 hok hR hW
  go_enter Try.func47, Try.ntmps47
  go_wp2_with fail
  refine C1.out.mono ?_
  rintro e w1 ⟨rfl, hb1⟩
  have hS1 := ((HS0.out.below hb1).blkAt 81 #[.slice none 0 0] (g := w1.heap.size) rfl).nilRow0 155 2
  have hS2 : Sep No w _ (allI (SwI w1.heap.size none 0 0 []) :: [blkI w.heap.size 55 #[.slice AW nW cW, .slice AR nR cR]]) := Sep.join (hS1.perm (List.Perm.cons _ (List.Perm.swap _ _ _)))
  have C := hide (C2.out _ w1.heap.size (hS2.get 0 rfl) (((HW.out.rd.more (D' := fun g => g < w.heap.size) (fun k hk _ => hk)).below hS2.below_).more (fun g _ hg hf => by
      rcases hS2.lo 0 rfl g hf with h | h
      · exact h
      · omega)))
  clear a1 a2 a3 a4
  obtain ⟨a1, a2, a3, a4⟩ := hS2.rules 1 (g := w.heap.size) (t := 55) rfl
  have a5 := a1 0
  have HS2 := hide hS2
  clear hS1 hS2 hb1 HS0 C1 C2 a1 a4
  go_wp2_with fail
  refine C.out.mono ?_
  rintro e w3 ⟨A, n, c, rfl, hP⟩
  have hS3 := (HS2.out.call 0 rfl hP).split
  obtain ⟨b1, b2, b3, b4⟩ := hS3.rules 1 (g := w1.heap.size) (t := 81) rfl
  have b5 := b1 0
  have HS3 := hide hS3
  clear b1 b4 hS3 hP HS2 C a2 a3 a5
  go_wp2_with fail
  go_ret2
  first
    | exact ⟨A, n, c, rfl, HS3.out.sub (by simp [SwI])⟩
    | exact ⟨_, _, _, ⟨rfl, rfl, rfl⟩, HS3.out.sub (by simp [SwI])⟩

set_option maxRecDepth 100000 in
set_option maxHeartbeats 4000000 in
theorem sweep_bad (w : World) (AW AR : Option Addr) (nW cW nR cR : Nat) (ws rs : List Int) (hW : WsIn w AW nW cW ws) (hR : WsIn w AR nR cR rs) (hz : acheck nW nR ws rs ≠ 0) :
    Calls Try.prog 47 #[.agg #[.slice AW nW cW, .slice AR nR cR]] w fun e w' => e = .returned (.tuple #[.slice none 0 0, .int .i64 (acheck nW nR ws rs)]) ∧ Below w.heap.size w w' := by
  have hS0 := (Sep.nil No w).blkAt 55 #[.slice AW nW cW, .slice AR nR cR] rfl
  obtain ⟨a1, a2, a3, a4⟩ := hS0.rules 0 (g := w.heap.size) (t := 55) rfl
  have HS0 := hide hS0
  have C1 := hide (arenaCheck_any _ AW AR nW cW nR cR ws rs (hW.below hS0.below_) (hR.below hS0.below_))
  obtain ⟨x, hx⟩ : ∃ x, acheck nW nR ws rs = x := ⟨_, rfl⟩
  rw [hx] at C1 hz ⊢
  have y1 : (x != 0) = true := by rw [bne_iff_ne]; exact hz
  clear hS0 hz hx
  go_enter Try.func47, Try.ntmps47
  go_wp2_with fail
  refine C1.out.mono ?_
  rintro e w1 ⟨rfl, hb1⟩
  have HB := hide (HS0.out.below hb1).below_
  clear a1 a2 a3 a4 hb1 HS0 C1
  go_wp2_with fail
  go_ret2
  exact ⟨rfl, HB.out⟩
end Go.Proofs.Ytpbafmdebflbpaa

namespace Go.Proofs.Ytpbafmdebflbpaa
open Go.RowKit

/-- So many words of an object are told. -/
def swPart (L : Blks) (a j : Nat) : Blks := if j = 0 then L else addB L a j
theorem swPart_succ (L : Blks) (a j : Nat) : addB (swPart L a j) (a + j) 1 = swPart L a (j + 1) := by
  unfold swPart
  cases j with
  | zero => simp
  | succ j => rw [if_neg (by omega), if_neg (by omega), addB_add]
theorem swPart_mem {L : Blks} {a j M : Nat} (h : ∀ p ∈ L, p.1 + p.2 ≤ M) (hj : a + j ≤ M) : ∀ p ∈ swPart L a j, p.1 + p.2 ≤ M := by
  unfold swPart; split
  · exact h
  · exact addB_mem h hj
theorem swPart_len (L : Blks) (a j : Nat) : (swPart L a j).length ≤ L.length + 1 := by
  unfold swPart; split
  · omega
  · exact addB_length _ _ _

set_option maxRecDepth 100000 in
set_option maxHeartbeats 32000000 in
theorem refSweep_any (w : World) (AW AR : Option Addr) (nW cW nR cR : Nat) (ws : List Int) (hW : WsIn w AW nW cW ws) (hn : nW ≤ 256) (hok : (parse nW ws 0).2 = true) :
    Calls Try.prog 49 #[.agg #[.slice AW nW cW, .slice AR nR cR]] w fun e w' => ∃ A n c, e = .returned (.slice A n c) ∧ Sep No w w' [rowI 155 2 A n c (blks (sweepL ws (parse nW ws 0).1))] := by
  have hS0 := (Sep.nil No w).blkAt 55 #[.slice AW nW cW, .slice AR nR cR] rfl
  obtain ⟨a1, a2, a3, a4⟩ := hS0.rules 0 (g := w.heap.size) (t := 55) rfl
  have HS0 := hide hS0
  have C1 := hide (refStarts_any _ AW nW cW ws (hW.below hS0.below_) hn)
  rw [show startsOf nW ws = placesOf (parse nW ws 0).1 from if_pos hok, hok] at C1
  have HPM := hide (fun p hp => parse_mem nW ws 0 p (fun x hx => (hW.wf x hx).1) hp)
  have HWL := hide hW.len
  have HSM := hide (fun k hk => sweepL_mem (arn_of hW hn hok) k hk)
  obtain ⟨pre, hpre⟩ : ∃ pre, (parse nW ws 0).1 = pre := ⟨_, rfl⟩
  rw [hpre] at HPM C1 HSM ⊢
  clear hS0 hok hpre
  go_enter Try.func49, Try.ntmps49
  go_wp2_with fail
  refine C1.out.mono ?_
  rintro e w1 ⟨As, ns, cs, rfl, hns, hP⟩
  have hpl : pre.length = ns := by have := (hP.rd_ 0 rfl).1; simpa [ints, placesOf] using this
  have hS2 := (HS0.out.snocNew hP.below_ _ (hP.get 0 rfl) (fun g hg => (hP.lo 0 rfl g hg).resolve_left (fun h => h))).nilRow0 155 2
  have HS2 := hide hS2
  have HPL := hide hpl
  clear a1 a2 a3 a4 hS2 HS0 hP C1 hpl
  go_wp2_with fail
  go_loopw [5, 20] (fun s5 i wr => ∃ (k : Nat) (A : Option Addr) (n c : Nat), k ≤ ns ∧ i = .int .i64 k ∧ s5 = .slice A n c ∧ Hid (n = (sweepL ws (pre.take k)).length) ∧ Sep No w wr [rowI 155 2 A n c (blks (sweepL ws (pre.take k))), blkI w.heap.size 55 #[.slice AW nW cW, .slice AR nR cR], rowI 3 1 As ns cs (ints (placesOf pre))]) (fun _ i _ => ns - (intOf i).toNat)
  case atStart => exact ⟨0, none, 0, 0, by omega, rfl, rfl, rfl, HS2.out⟩
  case round =>
    clear HS2
    obtain ⟨k, A, n, c, hk, rfl, rfl, HNL, hS⟩ := hrel
    by_cases hlt : k < ns
    · have hkl : k < pre.length := by rw [HPL.out]; exact hlt
      obtain ⟨ad, hA, _, had, hc⟩ := (hS.rd_ 2 rfl).at_ hlt
      have e0 := hc (.int .i64 pre[k].1) (by simp [ints, placesOf, List.getElem?_eq_getElem hkl])
      obtain ⟨q1, q2, q3, q4⟩ := HPM.out _ (List.getElem_mem hkl)
      have hT : sweepL ws (pre.take (k + 1)) = sweep1 ws (sweepL ws (pre.take k)) pre[k] := by rw [List.take_succ_eq_append_getElem hkl, sweepL_snoc]
      obtain ⟨m1, m2⟩ := HSM.out k (by omega)
      obtain ⟨⟨at_, len⟩, hp⟩ : ∃ p, pre[k] = p := ⟨_, rfl⟩
      rw [hp] at e0 q1 q2 q3 q4 hT
      dsimp only at e0 q1 q2 q3 q4
      have hlt2 : at_ < nW := by rw [← HWL.out]; exact q1
      obtain ⟨ad2, hA2, _, had2, hc2⟩ := (hW.below hS.below_).rd.at_ hlt2
      have e1 := hc2 (.int .u64 ws[at_]) (by simp [u64s, List.getElem?_eq_getElem q1])
      have hb := hW.wf _ (List.getElem_mem q1)
      have hgd : ws.getD at_ 0 = ws[at_] := by rw [List.getD_eq_getElem?_getD, List.getElem?_eq_getElem q1]; rfl
      unfold sweep1 at hT
      dsimp only at hT
      obtain ⟨x, hx⟩ : ∃ x, ws[at_] = x := ⟨_, rfl⟩
      rw [hgd, hx] at hT q2 q3
      rw [hx] at e1 hb
      have C := fun w' => unheadR_ok w' x hb.1 hb.2 q2
      rw [q3] at C
      have hl4 : len ≤ 4 := by have := q2.1; omega
      have hend : at_ + 1 + len ≤ nW := by rw [← HWL.out]; exact q4
      have C := hide C
      obtain ⟨g1, g2, g3, g4⟩ := hS.rules 1 (g := w.heap.size) (t := 55) rfl
      obtain ⟨L, hL⟩ : ∃ L, sweepL ws (pre.take k) = L := ⟨_, rfl⟩
      rw [hL] at hT m1 m2 HNL hS
      obtain ⟨mk, hmk⟩ : ∃ mk, hMark x = mk := ⟨_, rfl⟩
      rw [hmk] at hT C
      have HT := hide hT
      have HM1 := hide m1
      have HM2 := hide m2
      have HS := hide hS
      rw [hA]
      have HA := hide hA
      subst hA2
      clear hc hc2 q1 q2 q3 q4 hb hgd hx hp hS hA had2 hT m1 m2 hL hmk
      go_wp2_with fail
      refine (C.out _).mono ?_
      rintro e w3 ⟨rfl, hb3⟩
      have hS3 := (HS.out.below hb3).blkAt 23 #[.int .i64 len, .bool mk, .int .i64 (hAge x)] rfl
      have HS3 := hide hS3
      clear g1 g2 g3 g4 e0 e1 had C hb3 HS hS3
      go_wp2_with fail
      go_loopw [5, 10] (fun s5 i wx => ∃ (j : Nat) (A : Option Addr) (n c : Nat), j ≤ len + 1 ∧ i = .int .i64 j ∧ s5 = .slice A n c ∧ Hid (n = (swPart L at_ j).length) ∧ Hid (mk = true → j = 0) ∧ Sep No w wx [rowI 155 2 A n c (blks (swPart L at_ j)), blkI w.heap.size 55 #[.slice (some ad2) nW cW, .slice AR nR cR], rowI 3 1 As ns cs (ints (placesOf pre)), blkI w3.heap.size 23 #[.int .i64 len, .bool mk, .int .i64 (hAge x)]]) (fun _ i _ => len + 1 - (intOf i).toNat)
      case atStart => exact ⟨0, A, n, c, by omega, rfl, rfl, HNL, fun _ => rfl, HS3.out⟩
      case round =>
        clear HS3 HNL
        obtain ⟨j, A, n, c, hj, rfl, rfl, HNL, HMJ, hS⟩ := hrel
        obtain ⟨i1, i2, i3, i4⟩ := hS.rules 3 (g := w3.heap.size) (t := 23) rfl
        have i5 := i1 0
        have i6 := i1 1
        by_cases hlj : j ≤ len ∧ mk = false
        · obtain ⟨hj4, rfl⟩ := hlj
          have k1 : decide ((j : Int) ≤ (len : Int)) = true := by simp; omega
          have k2 : decide (j ≤ len) = true := by simp; omega
          have HP := hide (swPart_succ L at_ j)
          have hmem := swPart_mem (a := at_) (j := j) HM1.out (by omega)
          have hpl := swPart_len L at_ j
          have hn1 : n ≤ 1000 := by have := HNL.out; have := HM2.out; omega
          obtain ⟨q, hq⟩ : ∃ q, at_ + j = q := ⟨_, rfl⟩
          rw [hq] at HP
          have hq2 : q ≤ 256 := by omega
          have W0 : IntKind.i64.wrap ((at_ : Int) + (j : Int)) = (q : Int) := by simp only [IntKind.wrap_i64]; omega
          obtain ⟨l, hl⟩ : ∃ l, swPart L at_ j = l := ⟨_, rfl⟩
          rw [hl] at HP HNL hmem hS
          have HS := hide hS
          have hnl := HNL.out
          clear i1 i4 hpl hl hS
          rcases List.eq_nil_or_concat l with rfl | ⟨r, p, rfl⟩
          · obtain rfl : n = 0 := hnl
            have HE := hide (show addB [] q 1 = [(q, 1)] from addB_new (l := []) (by simp))
            clear hmem
            go_wp2_with fail
            go_quiet (fail)
            go_wp2_with (first
              | (at_builtin
                 refine wpList_app1 (cs := #[.int .i64 q, .int .i64 1]) rfl (.tmp 79) (.tmp 84) 81 rfl sBlock (HS.out.drewN _) 0 (n := 0) rfl rfl rfl (by first | (simp; done) | (rw [World.drewN_heap]; simp)) rfl rfl (by omega) ?_
                 intro A4 c4 w4 hS4 hC4))
            go_roundw
            case rel => exact ⟨j + 1, A4, 1, c4, by omega, by go_num, rfl, by rw [← HP.out, HE.out]; exact rfl, (fun h => by cases h), by rw [← HP.out, HE.out]; exact hS4⟩
            case measure => simp [intOf]; omega
          · obtain ⟨a, b⟩ := p
            rw [List.concat_eq_append] at *
            obtain ⟨kk, hkk⟩ : ∃ kk, r.length = kk := ⟨_, rfl⟩
            have hn2 : n = kk + 1 := by rw [hnl, List.length_append, hkk]; rfl
            have hab := hmem (a, b) (by simp)
            dsimp only at hab
            have W2 : IntKind.i64.wrap ((n : Int) - 1) = (kk : Int) := by simp only [IntKind.wrap_i64]; omega
            have W3 : IntKind.i64.wrap ((a : Int) + (b : Int)) = ((a + b : Nat) : Int) := by simp only [IntKind.wrap_i64]; omega
            have W4 : IntKind.i64.wrap ((b : Int) + 1) = ((b + 1 : Nat) : Int) := by simp only [IntKind.wrap_i64]; omega
            have K1 : decide ((0 : Int) < (n : Int)) = true := by simp; omega
            have K1b : decide (0 < n) = true := by simp; omega
            have hkn : kk < n := by omega
            have hrow : wr.ownsRow 0 155 2 (.slice A n c) n (blks (r ++ [(a, b)])) := HS.out.get 0 rfl
            obtain ⟨g, hA⟩ := own_addrB hrow (by omega)
            subst hA
            obtain ⟨v1, v2⟩ := blks_at (r ++ [(a, b)]) kk (by rw [← hnl]; omega)
            have v0 : (r ++ [(a, b)])[kk]'(by rw [← hnl]; omega) = (a, b) := by subst hkk; simp
            rw [v0] at v1 v2
            have e0 := (hrow.cellAt (kk * 2) (by omega)).trans v1
            have e1 := (hrow.cellAt (kk * 2 + (0 + 1)) (by omega)).trans v2
            have f1 := hrow.frozenAt (kk * 2 + (0 + 1))
            have HNL2 := hide hnl
            by_cases hjq : a + b = q
            · have HE := hide (show addB (r ++ [(a, b)]) q 1 = r ++ [(a, b + 1)] from addB_join hjq)
              have hS5 := (HS.out.store 0 (g := g) rfl (kk * 2 + 1) (.int .i64 ((b + 1 : Nat) : Int)))
              have hk2 : (blks (r ++ [(a, b)])).set (kk * 2 + 1) (.int .i64 ((b + 1 : Nat) : Int)) = blks (r ++ [(a, b + 1)]) := by rw [← hkk]; exact blks_last r a b (b + 1)
              rw [hk2] at hS5
              have HS5 := hide hS5
              have K2 : (((a + b : Nat) : Int) == (q : Int)) = true := by simp; omega
              have K2b : (a + b == q) = true := by simp; omega
              have HL2 := hide (show n = (r ++ [(a, b + 1)]).length by rw [hnl]; simp)
              clear hnl hmem hrow v1 v2 v0 hS5 hk2 hjq hkk hn2
              go_wp2_with fail
              go_quiet (fail)
              go_wp2_with fail
              go_roundw
              case rel => exact ⟨j + 1, some ⟨g, 0, none⟩, n, c, by omega, by go_num, rfl, by rw [← HP.out, HE.out]; exact HL2.out, (fun h => by cases h), by rw [← HP.out, HE.out]; exact HS5.out.drewN _⟩
              case measure => simp [intOf]; omega
            · have HE := hide (show addB (r ++ [(a, b)]) q 1 = (r ++ [(a, b)]) ++ [(q, 1)] from addB_new (fun p hp => by
                rw [List.getLast?_concat] at hp
                injection hp with hp
                subst hp
                exact hjq))
              have K2 : (((a + b : Nat) : Int) == (q : Int)) = false := by rw [beq_eq_false_iff_ne]; omega
              have K2b : (a + b == q) = false := by rw [beq_eq_false_iff_ne]; omega
              have HB3 := hide (blks_snoc (r ++ [(a, b)]) (q, 1))
              clear hnl hmem hrow v1 v2 v0 hjq hkk hn2
              go_wp2_with fail
              go_quiet (fail)
              go_wp2_with (first
                | (at_builtin
                   refine wpList_app1 (cs := #[.int .i64 q, .int .i64 1]) rfl (.tmp 79) (.tmp 84) 81 rfl sBlock (HS.out.drewN _) 0 (n := n) rfl rfl rfl (by first | (simp; done) | (rw [World.drewN_heap]; simp)) rfl rfl (by omega) ?_
                   intro A4 c4 w4 hS4 hC4))
              go_roundw
              case rel => exact ⟨j + 1, A4, n + 1, c4, by omega, by go_num, rfl, by rw [← HP.out, HE.out]; show n + 1 = _; rw [List.length_append, ← HNL2.out]; rfl, (fun h => by cases h), by rw [← HP.out, HE.out, HB3.out]; exact hS4⟩
              case measure => simp [intOf]; omega
        · have HE : Hid (swPart L at_ j = sweepL ws (pre.take (k + 1))) := hide (by
            rw [HT.out]
            unfold swPart
            cases mk with
            | true => rw [if_pos (HMJ.out rfl), if_pos rfl]
            | false =>
              have : j = len + 1 := by
                rcases Nat.lt_or_ge len j with h | h
                · omega
                · exact absurd ⟨h, rfl⟩ hlj
              rw [if_neg (by omega), if_neg (by simp), this, Nat.add_comm])
          rw [HE.out] at HNL hS
          have HS := hide (hS.sub (l := [rowI 155 2 A n c (blks (sweepL ws (pre.take (k + 1)))), blkI w.heap.size 55 #[.slice (some ad2) nW cW, .slice AR nR cR], rowI 3 1 As ns cs (ints (placesOf pre))]) (by simp))
          clear hS HE i1 i4
          cases mk with
          | true =>
            obtain rfl : j = 0 := HMJ.out rfl
            clear hlj HMJ
            go_wp2_with fail
            go_roundw
            case rel => exact ⟨k + 1, A, n, c, by omega, by go_num, rfl, HNL, by rw [← HA.out]; exact HS.out⟩
            case measure => simp [intOf]; omega
          | false =>
            have hj2 : len < j := by
              rcases Nat.lt_or_ge len j with h | h
              · exact h
              · exact absurd ⟨h, rfl⟩ hlj
            clear hlj HMJ
            have k1 : decide ((j : Int) ≤ (len : Int)) = false := by simp; omega
            have k2 : decide (j ≤ len) = false := by simp; omega
            go_wp2_with fail
            go_roundw
            case rel => exact ⟨k + 1, A, n, c, by omega, by go_num, rfl, HNL, by rw [← HA.out]; exact HS.out⟩
            case measure => simp [intOf]; omega
    · obtain rfl : k = ns := by omega
      rw [show pre.take k = pre from List.take_of_length_le (by rw [HPL.out]; omega)] at hS
      go_wp2_with fail
      go_ret
      exact ⟨A, n, c, rfl, hS.sub (by simp)⟩
end Go.Proofs.Ytpbafmdebflbpaa
