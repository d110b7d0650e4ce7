/- Sweeping: the reference's Sweep. Marks: Mark where it refuses; the law MarkTells: the walk. slide: Slide. -/
import Derived.Test.YtpbafmdebflbpaaMg22
import Derived.Test.YtpbafmdebflbpaaMg11
import Derived.Test.YtpbafmdebflbpaaMg21
import Derived.Test.YtpbafmdebflbpaaMg19
import Derived.Test.YtpbafmdebflbpaaMg18
namespace Go.Proofs.Ytpbafmdebflbpaa
open Go.RowKit

/-- So many words of an object are told. -/
def swPart (L : Blks) (a j : Nat) : Blks := if j = 0 then L else addB L a j
theorem swPart_succ (L : Blks) (a j : Nat) : addB (swPart L a j) (a + j) 1 = swPart L a (j + 1) := by
  unfold swPart
  cases j with
  | zero => simp
  | succ j => rw [if_neg (by omega), if_neg (by omega), addB_add]
theorem swPart_mem {L : Blks} {a j M : Nat} (h : ∀ p ∈ L, p.1 + p.2 ≤ M) (hj : a + j ≤ M) : ∀ p ∈ swPart L a j, p.1 + p.2 ≤ M := by
  unfold swPart; split
  · exact h
  · exact addB_mem h hj
theorem swPart_len (L : Blks) (a j : Nat) : (swPart L a j).length ≤ L.length + 1 := by
  unfold swPart; split
  · omega
  · exact addB_length _ _ _

set_option maxRecDepth 100000 in
set_option maxHeartbeats 32000000 in
theorem refSweep_any (w : World) (AW AR : Option Addr) (nW cW nR cR : Nat) (ws : List Int) (hW : WsIn w AW nW cW ws) (hn : nW ≤ 256) (hok : (parse nW ws 0).2 = true) :
    Calls Try.prog 49 #[.agg #[.slice AW nW cW, .slice AR nR cR]] w fun e w' => ∃ A n c, e = .returned (.slice A n c) ∧ Sep No w w' [rowI 155 2 A n c (blks (sweepL ws (parse nW ws 0).1))] := by
  have hS0 := (Sep.nil No w).blkAt 55 #[.slice AW nW cW, .slice AR nR cR] rfl
  obtain ⟨a1, a2, a3, a4⟩ := hS0.rules 0 (g := w.heap.size) (t := 55) rfl
  have HS0 := hide hS0
  have C1 := hide (refStarts_any _ AW nW cW ws (hW.below hS0.below_) hn)
  rw [show startsOf nW ws = placesOf (parse nW ws 0).1 from if_pos hok, hok] at C1
  have HPM := hide (fun p hp => parse_mem nW ws 0 p (fun x hx => (hW.wf x hx).1) hp)
  have HWL := hide hW.len
  have HSM := hide (fun k hk => sweepL_mem (arn_of hW hn hok) k hk)
  obtain ⟨pre, hpre⟩ : ∃ pre, (parse nW ws 0).1 = pre := ⟨_, rfl⟩
  rw [hpre] at HPM C1 HSM ⊢
  clear hS0 hok hpre
  go_enter Try.func49, Try.ntmps49
  go_wp2_with fail
  refine C1.out.mono ?_
  rintro e w1 ⟨As, ns, cs, rfl, hns, hP⟩
  have hpl : pre.length = ns := by have := (hP.rd_ 0 rfl).1; simpa [ints, placesOf] using this
  have hS2 := (HS0.out.snocNew hP.below_ _ (hP.get 0 rfl) (fun g hg => (hP.lo 0 rfl g hg).resolve_left (fun h => h))).nilRow0 155 2
  have HS2 := hide hS2
  have HPL := hide hpl
  clear a1 a2 a3 a4 hS2 HS0 hP C1 hpl
  go_wp2_with fail
  go_loopw [5, 20] (fun s5 i wr => ∃ (k : Nat) (A : Option Addr) (n c : Nat), k ≤ ns ∧ i = .int .i64 k ∧ s5 = .slice A n c ∧ Hid (n = (sweepL ws (pre.take k)).length) ∧ Sep No w wr [rowI 155 2 A n c (blks (sweepL ws (pre.take k))), blkI w.heap.size 55 #[.slice AW nW cW, .slice AR nR cR], rowI 3 1 As ns cs (ints (placesOf pre))]) (fun _ i _ => ns - (intOf i).toNat)
  case atStart => exact ⟨0, none, 0, 0, by omega, rfl, rfl, rfl, HS2.out⟩
  case round =>
    clear HS2
    obtain ⟨k, A, n, c, hk, rfl, rfl, HNL, hS⟩ := hrel
    by_cases hlt : k < ns
    · have hkl : k < pre.length := by rw [HPL.out]; exact hlt
      obtain ⟨ad, hA, _, had, hc⟩ := (hS.rd_ 2 rfl).at_ hlt
      have e0 := hc (.int .i64 pre[k].1) (by simp [ints, placesOf, List.getElem?_eq_getElem hkl])
      obtain ⟨q1, q2, q3, q4⟩ := HPM.out _ (List.getElem_mem hkl)
      have hT : sweepL ws (pre.take (k + 1)) = sweep1 ws (sweepL ws (pre.take k)) pre[k] := by rw [List.take_succ_eq_append_getElem hkl, sweepL_snoc]
      obtain ⟨m1, m2⟩ := HSM.out k (by omega)
      obtain ⟨⟨at_, len⟩, hp⟩ : ∃ p, pre[k] = p := ⟨_, rfl⟩
      rw [hp] at e0 q1 q2 q3 q4 hT
      dsimp only at e0 q1 q2 q3 q4
      have hlt2 : at_ < nW := by rw [← HWL.out]; exact q1
      obtain ⟨ad2, hA2, _, had2, hc2⟩ := (hW.below hS.below_).rd.at_ hlt2
      have e1 := hc2 (.int .u64 ws[at_]) (by simp [u64s, List.getElem?_eq_getElem q1])
      have hb := hW.wf _ (List.getElem_mem q1)
      have hgd : ws.getD at_ 0 = ws[at_] := by rw [List.getD_eq_getElem?_getD, List.getElem?_eq_getElem q1]; rfl
      unfold sweep1 at hT
      dsimp only at hT
      obtain ⟨x, hx⟩ : ∃ x, ws[at_] = x := ⟨_, rfl⟩
      rw [hgd, hx] at hT q2 q3
      rw [hx] at e1 hb
      have C := fun w' => unheadR_ok w' x hb.1 hb.2 q2
      rw [q3] at C
      have hl4 : len ≤ 4 := by have := q2.1; omega
      have hend : at_ + 1 + len ≤ nW := by rw [← HWL.out]; exact q4
      have C := hide C
      obtain ⟨g1, g2, g3, g4⟩ := hS.rules 1 (g := w.heap.size) (t := 55) rfl
      obtain ⟨L, hL⟩ : ∃ L, sweepL ws (pre.take k) = L := ⟨_, rfl⟩
      rw [hL] at hT m1 m2 HNL hS
      obtain ⟨mk, hmk⟩ : ∃ mk, hMark x = mk := ⟨_, rfl⟩
      rw [hmk] at hT C
      have HT := hide hT
      have HM1 := hide m1
      have HM2 := hide m2
      have HS := hide hS
      rw [hA]
      have HA := hide hA
      subst hA2
      clear hc hc2 q1 q2 q3 q4 hb hgd hx hp hS hA had2 hT m1 m2 hL hmk
      go_wp2_with fail
      refine (C.out _).mono ?_
      rintro e w3 ⟨rfl, hb3⟩
      have hS3 := (HS.out.below hb3).blkAt 23 #[.int .i64 len, .bool mk, .int .i64 (hAge x)] rfl
      have HS3 := hide hS3
      clear g1 g2 g3 g4 e0 e1 had C hb3 HS hS3
      go_wp2_with fail
      go_loopw [5, 10] (fun s5 i wx => ∃ (j : Nat) (A : Option Addr) (n c : Nat), j ≤ len + 1 ∧ i = .int .i64 j ∧ s5 = .slice A n c ∧ Hid (n = (swPart L at_ j).length) ∧ Hid (mk = true → j = 0) ∧ Sep No w wx [rowI 155 2 A n c (blks (swPart L at_ j)), blkI w.heap.size 55 #[.slice (some ad2) nW cW, .slice AR nR cR], rowI 3 1 As ns cs (ints (placesOf pre)), blkI w3.heap.size 23 #[.int .i64 len, .bool mk, .int .i64 (hAge x)]]) (fun _ i _ => len + 1 - (intOf i).toNat)
      case atStart => exact ⟨0, A, n, c, by omega, rfl, rfl, HNL, fun _ => rfl, HS3.out⟩
      case round =>
        clear HS3 HNL
        obtain ⟨j, A, n, c, hj, rfl, rfl, HNL, HMJ, hS⟩ := hrel
        obtain ⟨i1, i2, i3, i4⟩ := hS.rules 3 (g := w3.heap.size) (t := 23) rfl
        have i5 := i1 0
        have i6 := i1 1
        by_cases hlj : j ≤ len ∧ mk = false
        · obtain ⟨hj4, rfl⟩ := hlj
          have k1 : decide ((j : Int) ≤ (len : Int)) = true := by simp; omega
          have k2 : decide (j ≤ len) = true := by simp; omega
          have HP := hide (swPart_succ L at_ j)
          have hmem := swPart_mem (a := at_) (j := j) HM1.out (by omega)
          have hpl := swPart_len L at_ j
          have hn1 : n ≤ 1000 := by have := HNL.out; have := HM2.out; omega
          obtain ⟨q, hq⟩ : ∃ q, at_ + j = q := ⟨_, rfl⟩
          rw [hq] at HP
          have hq2 : q ≤ 256 := by omega
          have W0 : IntKind.i64.wrap ((at_ : Int) + (j : Int)) = (q : Int) := by simp only [IntKind.wrap_i64]; omega
          obtain ⟨l, hl⟩ : ∃ l, swPart L at_ j = l := ⟨_, rfl⟩
          rw [hl] at HP HNL hmem hS
          have HS := hide hS
          have hnl := HNL.out
          clear i1 i4 hpl hl hS
          rcases List.eq_nil_or_concat l with rfl | ⟨r, p, rfl⟩
          · obtain rfl : n = 0 := hnl
            have HE := hide (show addB [] q 1 = [(q, 1)] from addB_new (l := []) (by simp))
            clear hmem
            go_wp2_with fail
            go_quiet (fail)
            go_wp2_with (first
              | (at_builtin
                 refine wpList_app1 (cs := #[.int .i64 q, .int .i64 1]) rfl (.tmp 79) (.tmp 84) 81 rfl sBlock (HS.out.drewN _) 0 (n := 0) rfl rfl rfl (by first | (simp; done) | (rw [World.drewN_heap]; simp)) rfl rfl (by omega) ?_
                 intro A4 c4 w4 hS4 hC4))
            go_roundw
            case rel => exact ⟨j + 1, A4, 1, c4, by omega, by go_num, rfl, by rw [← HP.out, HE.out]; exact rfl, (fun h => by cases h), by rw [← HP.out, HE.out]; exact hS4⟩
            case measure => simp [intOf]; omega
          · obtain ⟨a, b⟩ := p
            rw [List.concat_eq_append] at *
            obtain ⟨kk, hkk⟩ : ∃ kk, r.length = kk := ⟨_, rfl⟩
            have hn2 : n = kk + 1 := by rw [hnl, List.length_append, hkk]; rfl
            have hab := hmem (a, b) (by simp)
            dsimp only at hab
            have W2 : IntKind.i64.wrap ((n : Int) - 1) = (kk : Int) := by simp only [IntKind.wrap_i64]; omega
            have W3 : IntKind.i64.wrap ((a : Int) + (b : Int)) = ((a + b : Nat) : Int) := by simp only [IntKind.wrap_i64]; omega
            have W4 : IntKind.i64.wrap ((b : Int) + 1) = ((b + 1 : Nat) : Int) := by simp only [IntKind.wrap_i64]; omega
            have K1 : decide ((0 : Int) < (n : Int)) = true := by simp; omega
            have K1b : decide (0 < n) = true := by simp; omega
            have hkn : kk < n := by omega
            have hrow : wr.ownsRow 0 155 2 (.slice A n c) n (blks (r ++ [(a, b)])) := HS.out.get 0 rfl
            obtain ⟨g, hA⟩ := own_addrB hrow (by omega)
            subst hA
            obtain ⟨v1, v2⟩ := blks_at (r ++ [(a, b)]) kk (by rw [← hnl]; omega)
            have v0 : (r ++ [(a, b)])[kk]'(by rw [← hnl]; omega) = (a, b) := by subst hkk; simp
            rw [v0] at v1 v2
            have e0 := (hrow.cellAt (kk * 2) (by omega)).trans v1
            have e1 := (hrow.cellAt (kk * 2 + (0 + 1)) (by omega)).trans v2
            have f1 := hrow.frozenAt (kk * 2 + (0 + 1))
            have HNL2 := hide hnl
            by_cases hjq : a + b = q
            · have HE := hide (show addB (r ++ [(a, b)]) q 1 = r ++ [(a, b + 1)] from addB_join hjq)
              have hS5 := (HS.out.store 0 (g := g) rfl (kk * 2 + 1) (.int .i64 ((b + 1 : Nat) : Int)))
              have hk2 : (blks (r ++ [(a, b)])).set (kk * 2 + 1) (.int .i64 ((b + 1 : Nat) : Int)) = blks (r ++ [(a, b + 1)]) := by rw [← hkk]; exact blks_last r a b (b + 1)
              rw [hk2] at hS5
              have HS5 := hide hS5
              have K2 : (((a + b : Nat) : Int) == (q : Int)) = true := by simp; omega
              have K2b : (a + b == q) = true := by simp; omega
              have HL2 := hide (show n = (r ++ [(a, b + 1)]).length by rw [hnl]; simp)
              clear hnl hmem hrow v1 v2 v0 hS5 hk2 hjq hkk hn2
              go_wp2_with fail
              go_quiet (fail)
              go_wp2_with fail
              go_roundw
              case rel => exact ⟨j + 1, some ⟨g, 0, none⟩, n, c, by omega, by go_num, rfl, by rw [← HP.out, HE.out]; exact HL2.out, (fun h => by cases h), by rw [← HP.out, HE.out]; exact HS5.out.drewN _⟩
              case measure => simp [intOf]; omega
            · have HE := hide (show addB (r ++ [(a, b)]) q 1 = (r ++ [(a, b)]) ++ [(q, 1)] from addB_new (fun p hp => by
                rw [List.getLast?_concat] at hp
                injection hp with hp
                subst hp
                exact hjq))
              have K2 : (((a + b : Nat) : Int) == (q : Int)) = false := by rw [beq_eq_false_iff_ne]; omega
              have K2b : (a + b == q) = false := by rw [beq_eq_false_iff_ne]; omega
              have HB3 := hide (blks_snoc (r ++ [(a, b)]) (q, 1))
              clear hnl hmem hrow v1 v2 v0 hjq hkk hn2
              go_wp2_with fail
              go_quiet (fail)
              go_wp2_with (first
                | (at_builtin
                   refine wpList_app1 (cs := #[.int .i64 q, .int .i64 1]) rfl (.tmp 79) (.tmp 84) 81 rfl sBlock (HS.out.drewN _) 0 (n := n) rfl rfl rfl (by first | (simp; done) | (rw [World.drewN_heap]; simp)) rfl rfl (by omega) ?_
                   intro A4 c4 w4 hS4 hC4))
              go_roundw
              case rel => exact ⟨j + 1, A4, n + 1, c4, by omega, by go_num, rfl, by rw [← HP.out, HE.out]; show n + 1 = _; rw [List.length_append, ← HNL2.out]; rfl, (fun h => by cases h), by rw [← HP.out, HE.out, HB3.out]; exact hS4⟩
              case measure => simp [intOf]; omega
        · have HE : Hid (swPart L at_ j = sweepL ws (pre.take (k + 1))) := hide (by
            rw [HT.out]
            unfold swPart
            cases mk with
            | true => rw [if_pos (HMJ.out rfl), if_pos rfl]
            | false =>
              have : j = len + 1 := by
                rcases Nat.lt_or_ge len j with h | h
                · omega
                · exact absurd ⟨h, rfl⟩ hlj
              rw [if_neg (by omega), if_neg (by simp), this, Nat.add_comm])
          rw [HE.out] at HNL hS
          have HS := hide (hS.sub (l := [rowI 155 2 A n c (blks (sweepL ws (pre.take (k + 1)))), blkI w.heap.size 55 #[.slice (some ad2) nW cW, .slice AR nR cR], rowI 3 1 As ns cs (ints (placesOf pre))]) (by simp))
          clear hS HE i1 i4
          cases mk with
          | true =>
            obtain rfl : j = 0 := HMJ.out rfl
            clear hlj HMJ
            go_wp2_with fail
            go_roundw
            case rel => exact ⟨k + 1, A, n, c, by omega, by go_num, rfl, HNL, by rw [← HA.out]; exact HS.out⟩
            case measure => simp [intOf]; omega
          | false =>
            have hj2 : len < j := by
              rcases Nat.lt_or_ge len j with h | h
              · exact h
              · exact absurd ⟨h, rfl⟩ hlj
            clear hlj HMJ
            have k1 : decide ((j : Int) ≤ (len : Int)) = false := by simp; omega
            have k2 : decide (j ≤ len) = false := by simp; omega
            go_wp2_with fail
            go_roundw
            case rel => exact ⟨k + 1, A, n, c, by omega, by go_num, rfl, HNL, by rw [← HA.out]; exact HS.out⟩
            case measure => simp [intOf]; omega
    · obtain rfl : k = ns := by omega
      rw [show pre.take k = pre from List.take_of_length_le (by rw [HPL.out]; omega)] at hS
      go_wp2_with fail
      go_ret
      exact ⟨A, n, c, rfl, hS.sub (by simp)⟩
end Go.Proofs.Ytpbafmdebflbpaa

namespace Go.Proofs.Ytpbafmdebflbpaa
open Go.RowKit

theorem arenas_nil_ (w : World) : ArenaRd w w (.agg #[.slice none 0 0, .slice none 0 0]) [] [] := ⟨_, _, _, _, _, _, rfl, Rd.nil, Rd.nil⟩
theorem arn_rd {W w : World} {n1 n2 c1 c2 : Nat} {A1 A2 : Option Addr} {a b : List Int} (h : Sep No W w [rowI 24 1 A1 n1 c1 (u64s a), rowI 24 1 A2 n2 c2 (u64s b)]) : ArenaRd W w (.agg #[.slice A1 n1 c1, .slice A2 n2 c2]) a b := ⟨_, _, _, _, _, _, rfl, h.rd 0 rfl, h.rd 1 rfl⟩

set_option maxRecDepth 100000 in
set_option maxHeartbeats 4000000 in
theorem mark_bad (w : World) (AW AR : Option Addr) (nW cW nR cR : Nat) (room : Int) (ws rs : List Int) (hW : WsIn w AW nW cW ws) (hR : WsIn w AR nR cR rs) (hz : acheck nW nR ws rs ≠ 0) :
    Calls Try.prog 46 #[.agg #[.slice AW nW cW, .slice AR nR cR], .int .i64 room] w fun e w' => e = .returned (.tuple #[.agg #[.slice none 0 0, .slice none 0 0], .int .i64 (acheck nW nR ws rs)]) ∧ Below w.heap.size w w' := by
  have hS0 := ((Sep.nil No w).blkAt 55 #[.slice AW nW cW, .slice AR nR cR] rfl).blkAt 55 #[.slice none 0 0, .slice none 0 0] (g := w.heap.size + 1) (by simp)
  obtain ⟨a1, a2, a3, a4⟩ := hS0.rules 0 (g := w.heap.size) (t := 55) rfl
  have HS0 := hide hS0
  have C1 := hide (arenaCheck_any _ AW AR nW cW nR cR ws rs (hW.below hS0.below_) (hR.below hS0.below_))
  obtain ⟨x, hx⟩ : ∃ x, acheck nW nR ws rs = x := ⟨_, rfl⟩
  rw [hx] at C1 hz ⊢
  have y1 : (x != 0) = true := by rw [bne_iff_ne]; exact hz
  clear hS0 hx hz
  go_enter Try.func46, Try.ntmps46
  go_wp2_with fail
  refine C1.out.mono ?_
  rintro e w1 ⟨rfl, hb1⟩
  have hS1 := HS0.out.below hb1
  have HS1 := hide hS1
  clear a1 a2 a3 a4
  obtain ⟨q1, q2, q3, q4⟩ := hS1.rules 1 (g := w.heap.size + 1) (t := 55) rfl
  clear hS1
  go_wp2_with fail
  have hF := (HS1.out.set_ 1 (g := w.heap.size + 1) (t := 55) rfl 0 (.slice none 0 0)).set_ 1 (g := w.heap.size + 1) (t := 55) rfl 1 (.slice none 0 0)
  refine bodyPost_ret (v := .tuple #[.agg #[.slice none 0 0, .slice none 0 0], .int .i64 x]) (by simp [results, Try.results46, go_sem, q1]) rfl ⟨rfl, hF.below_⟩
set_option maxRecDepth 100000 in
set_option maxHeartbeats 4000000 in
theorem mark_room (w : World) (AW AR : Option Addr) (nW cW nR cR : Nat) (room : Int) (ws rs : List Int) (hW : WsIn w AW nW cW ws) (hR : WsIn w AR nR cR rs) (hz : acheck nW nR ws rs = 0) (hr : room < 1 ∨ 64 < room) :
    Calls Try.prog 46 #[.agg #[.slice AW nW cW, .slice AR nR cR], .int .i64 room] w fun e w' => e = .returned (.tuple #[.agg #[.slice none 0 0, .slice none 0 0], .int .i64 3]) ∧ Below w.heap.size w w' := by
  have hS0 := ((Sep.nil No w).blkAt 55 #[.slice AW nW cW, .slice AR nR cR] rfl).blkAt 55 #[.slice none 0 0, .slice none 0 0] (g := w.heap.size + 1) (by simp)
  obtain ⟨a1, a2, a3, a4⟩ := hS0.rules 0 (g := w.heap.size) (t := 55) rfl
  have HS0 := hide hS0
  have C1 := hide (arenaCheck_any _ AW AR nW cW nR cR ws rs (hW.below hS0.below_) (hR.below hS0.below_))
  rw [hz] at C1
  clear hS0 hz
  by_cases h1 : room < 1
  · have k1 : decide (room < 1) = true := by simp [h1]
    clear h1 hr
    go_enter Try.func46, Try.ntmps46
    go_wp2_with fail
    refine C1.out.mono ?_
    rintro e w1 ⟨rfl, hb1⟩
    have hS1 := HS0.out.below hb1
    have HS1 := hide hS1
    clear a1 a2 a3 a4
    obtain ⟨q1, q2, q3, q4⟩ := hS1.rules 1 (g := w.heap.size + 1) (t := 55) rfl
    clear hS1
    go_wp2_with fail
    have hF := (HS1.out.set_ 1 (g := w.heap.size + 1) (t := 55) rfl 0 (.slice none 0 0)).set_ 1 (g := w.heap.size + 1) (t := 55) rfl 1 (.slice none 0 0)
    refine bodyPost_ret (v := .tuple #[.agg #[.slice none 0 0, .slice none 0 0], .int .i64 3]) (by simp [results, Try.results46, go_sem, q1]) rfl ⟨rfl, hF.below_⟩
  · have k1 : decide (room < 1) = false := by simp only [h1, decide_false]
    have k2 : decide (64 < room) = true := by simp; omega
    clear h1 hr
    go_enter Try.func46, Try.ntmps46
    go_wp2_with fail
    refine C1.out.mono ?_
    rintro e w1 ⟨rfl, hb1⟩
    have hS1 := HS0.out.below hb1
    have HS1 := hide hS1
    clear a1 a2 a3 a4
    obtain ⟨q1, q2, q3, q4⟩ := hS1.rules 1 (g := w.heap.size + 1) (t := 55) rfl
    clear hS1
    go_wp2_with fail
    have hF := (HS1.out.set_ 1 (g := w.heap.size + 1) (t := 55) rfl 0 (.slice none 0 0)).set_ 1 (g := w.heap.size + 1) (t := 55) rfl 1 (.slice none 0 0)
    refine bodyPost_ret (v := .tuple #[.agg #[.slice none 0 0, .slice none 0 0], .int .i64 3]) (by simp [results, Try.results46, go_sem, q1]) rfl ⟨rfl, hF.below_⟩

set_option maxRecDepth 100000 in
set_option maxHeartbeats 8000000 in
theorem markTells_bad (w : World) (AW AR : Option Addr) (nW cW nR cR : Nat) (room : Int) (ws rs : List Int) (hW : WsIn w AW nW cW ws) (hR : WsIn w AR nR cR rs) (hz : acheck nW nR ws rs ≠ 0) :
    Calls Try.prog 11 #[.agg #[.slice AW nW cW, .slice AR nR cR], .int .i64 room] w fun e w' => e = .returned (.bool true) ∧ Below w.heap.size w w' := by
  have hB0 : Below w.heap.size w (w.alloc (.cells #[.slice AW nW cW, .slice AR nR cR] 55)) := (Below.refl _ w).alloc (Nat.le_refl _) _
  have BA := hide (Blk.new w 55 #[.slice AW nW cW, .slice AR nR cR])
  have HB0 := hide hB0
  have C1 := hide (mark_bad _ AW AR nW cW nR cR room ws rs (hW.below hB0) (hR.below hB0) hz)
  have C2 := hide (fun w' (hb : Below w.heap.size w w') => sweep_bad w' AW AR nW cW nR cR ws rs (hW.below hb) (hR.below hb) hz)
  have C4 := hide (fun w' (hb : Below w.heap.size w w') => refAcheck_any w' AW AR nW cW nR cR ws rs (hW.below hb) (hR.below hb))
  obtain ⟨x, hx⟩ : ∃ x, acheck nW nR ws rs = x := ⟨_, rfl⟩
  rw [hx] at C1 hz
  simp only [hx] at C2 C4
  have y1 : (x != 0) = true := by rw [bne_iff_ne]; exact hz
  clear hz hx hB0
  go_enter Try.func11, Try.ntmps11
  go_wp2_with fail
  refine C1.out.mono ?_
  rintro e w1 ⟨rfl, hb1⟩
  have bA1 := (BA.out.below_ hb1).alloc (.cells #[.slice none 0 0, .slice none 0 0] 55)
  have hB1 := HB0.out.trans (hb1.mono HB0.out.size)
  have hB1' := hB1.alloc hB1.size (.cells #[.slice none 0 0, .slice none 0 0] 55)
  have bV1 := Blk.new w1 55 #[.slice none 0 0, .slice none 0 0]
  obtain ⟨a1, a2, a3⟩ := bA1.rules
  have HB1 := hide hB1'
  have BA1 := hide bA1
  have BV1 := hide bV1
  clear hb1 hB1 hB1' bA1 bV1 HB0 BA C1
  go_wp2_with fail
  refine (C2.out _ HB1.out).mono ?_
  rintro e w2 ⟨rfl, hb2⟩
  have hB2 := HB1.out.trans (hb2.mono HB1.out.size)
  have bA2 := BA1.out.below_ hb2
  have bV2 := BV1.out.below_ hb2
  clear a1 a2 a3
  obtain ⟨a1, a2, a3⟩ := bA2.rules
  have HB2 := hide hB2
  have BV2 := hide bV2
  clear hb2 hB2 bA2 bV2 HB1 BA1 BV1 C2
  go_wp2_with fail
  refine (C4.out _ HB2.out).mono ?_
  rintro e w3 ⟨rfl, hb3⟩
  have hB3 := HB2.out.trans (hb3.mono HB2.out.size)
  have bV3 := BV2.out.below_ hb3
  clear a1 a2 a3
  obtain ⟨v1, v2, v3⟩ := bV3.rules
  have HB3 := hide hB3
  clear hb3 hB3 bV3 HB2 BV2 C4
  go_wp2_with fail
  refine (arenas_any w3 w3 w3 _ _ [] [] (by simp) (by simp) (arenas_nil_ w3) (arenas_nil_ w3)).mono ?_
  rintro e w4 ⟨rfl, hb4⟩
  have hB4 := HB3.out.trans (hb4.mono HB3.out.size)
  have HB4 := hide hB4
  clear hB4 hb4 v1 v2 v3
  go_wp2_with fail
  go_ret
  exact ⟨rfl, HB4.out⟩

set_option maxRecDepth 100000 in
set_option maxHeartbeats 8000000 in
theorem markTells_room (w : World) (AW AR : Option Addr) (nW cW nR cR : Nat) (room : Int) (ws rs : List Int) (hW : WsIn w AW nW cW ws) (hR : WsIn w AR nR cR rs) (hz : acheck nW nR ws rs = 0) (hr : room < 1 ∨ 64 < room) :
    Calls Try.prog 11 #[.agg #[.slice AW nW cW, .slice AR nR cR], .int .i64 room] w fun e w' => e = .returned (.bool true) ∧ Below w.heap.size w w' := by
  obtain ⟨h1, h2, h3, h4⟩ := acheck_zero hz
  have hB0 : Below w.heap.size w (w.alloc (.cells #[.slice AW nW cW, .slice AR nR cR] 55)) := (Below.refl _ w).alloc (Nat.le_refl _) _
  have BA := hide (Blk.new w 55 #[.slice AW nW cW, .slice AR nR cR])
  have HB0 := hide hB0
  have C1 := hide (mark_room _ AW AR nW cW nR cR room ws rs (hW.below hB0) (hR.below hB0) hz hr)
  have C2 := hide (fun w' (hb : Below w.heap.size w w') => sweep_ok w' AW AR nW cW nR cR ws rs (hW.below hb) (hR.below hb) hz)
  have C3 := hide (fun w' (hb : Below w.heap.size w w') => refSweep_any w' AW AR nW cW nR cR ws (hW.below hb) h1 h3)
  have C4 := hide (fun w' (hb : Below w.heap.size w w') => refAcheck_any w' AW AR nW cW nR cR ws rs (hW.below hb) (hR.below hb))
  simp only [hz] at C4
  obtain ⟨L, hL⟩ : ∃ L, sweepL ws (parse nW ws 0).1 = L := ⟨_, rfl⟩
  have hLl : L.length ≤ 1000 := by
    have h5 := (sweepL_mem (arn_of hW h1 h3) _ (Nat.le_refl _)).2
    rw [List.take_length, hL] at h5
    have h7 := parse_sum nW ws 0 (by omega) (fun x hx => (hW.wf x hx).1)
    have h8 : ∀ m : List (Nat × Nat), m.length ≤ (m.map fun p => 1 + p.2).sum := fun m => by
      induction m with
      | nil => simp
      | cons a m ih => simp only [List.map_cons, List.sum_cons, List.length_cons]; omega
    have h9 := h8 (parse nW ws 0).1
    have h10 := hW.len
    omega
  simp only [hL] at C2 C3
  have k3 : decide (room < 1) = true ∨ (decide (room < 1) = false ∧ decide (64 < room) = true) := by
    rcases hr with h | h
    · exact .inl (by simp [h])
    · by_cases h5 : room < 1
      · exact .inl (by simp [h5])
      · exact .inr ⟨by simp only [h5, decide_false], by simp [h]⟩
  have HLL := hide hLl
  clear hz hB0 h1 h2 h3 h4 hL hLl hr
  go_enter Try.func11, Try.ntmps11
  go_wp2_with fail
  refine C1.out.mono ?_
  rintro e w1 ⟨rfl, hb1⟩
  have bA1 := (BA.out.below_ hb1).alloc (.cells #[.slice none 0 0, .slice none 0 0] 55)
  have hB1 := HB0.out.trans (hb1.mono HB0.out.size)
  have hB1' := hB1.alloc hB1.size (.cells #[.slice none 0 0, .slice none 0 0] 55)
  have bV1 := Blk.new w1 55 #[.slice none 0 0, .slice none 0 0]
  obtain ⟨a1, a2, a3⟩ := bA1.rules
  have HB1 := hide hB1'
  have BA1 := hide bA1
  have BV1 := hide bV1
  clear hb1 hB1 hB1' bA1 bV1 HB0 BA C1
  go_wp2_with fail
  refine (C2.out _ HB1.out).mono ?_
  rintro e w2 ⟨A2, n2, c2, rfl, hP2⟩
  have hb2 := hP2.below_
  have hn2 : n2 = L.length := by have := (hP2.rd_ 0 rfl).1; rw [blks_length] at this; omega
  subst hn2
  have hB2 := HB1.out.trans (hb2.mono HB1.out.size)
  have bA2 := BA1.out.below_ hb2
  have bV2 := BV1.out.below_ hb2
  clear a1 a2 a3
  obtain ⟨a1, a2, a3⟩ := bA2.rules
  have HB2 := hide hB2
  have BA2 := hide bA2
  have BV2 := hide bV2
  have HR2 := hide (hP2.rd_ 0 rfl)
  clear hb2 hP2 hB2 bA2 bV2 HB1 BA1 BV1 C2
  go_wp2_with fail
  refine (C4.out _ HB2.out).mono ?_
  rintro e w3 ⟨rfl, hb3⟩
  have hB3 := HB2.out.trans (hb3.mono HB2.out.size)
  have bV3 := BV2.out.below_ hb3
  have bA3 := BA2.out.below_ hb3
  clear a1 a2 a3
  obtain ⟨a1, a2, a3⟩ := bA3.rules
  have HB3 := hide hB3
  have BV3 := hide bV3
  have HR3 := hide (HR2.out.below hb3)
  clear hb3 hB3 bV3 bA3 HB2 BV2 BA2 C4 HR2
  go_wp2_with fail
  refine (C3.out _ HB3.out).mono ?_
  rintro e w4 ⟨A4, n4, c4, rfl, hP4⟩
  have hb4 := hP4.below_
  have hn4 : n4 = L.length := by have := (hP4.rd_ 0 rfl).1; rw [blks_length] at this; omega
  subst hn4
  have C5 := hide (blocks_same w4 _ _ A2 A4 L.length c2 c4 L (by have := HLL.out; omega) (HR3.out.below hb4) (hP4.rd_ 0 rfl))
  have HB4 := hide (HB3.out.trans (hb4.mono HB3.out.size))
  have BV4 := hide (BV3.out.below_ hb4)
  clear a1 a2 a3 hb4 hP4 HB3 BV3 C3 HR3
  go_wp2_with fail
  refine C5.out.mono ?_
  rintro e w5 ⟨rfl, hb5⟩
  have hB5 := HB4.out.trans (hb5.mono HB4.out.size)
  have bV5 := BV4.out.below_ hb5
  obtain ⟨v1, v2, v3⟩ := bV5.rules
  have HB5 := hide hB5
  clear hb5 hB5 bV5 HB4 BV4 C5
  rcases k3 with k3 | ⟨k3, k4⟩
  all_goals
    go_wp2_with fail
    refine (arenas_any w5 w5 w5 _ _ [] [] (by simp) (by simp) (arenas_nil_ w5) (arenas_nil_ w5)).mono ?_
    rintro e w6 ⟨rfl, hb6⟩
    have HB6 := hide (HB5.out.trans (hb6.mono HB5.out.size))
    clear hb6 v1 v2 v3
    go_wp2_with fail
    go_ret
    exact ⟨rfl, HB6.out⟩
set_option maxRecDepth 100000 in
set_option maxHeartbeats 8000000 in
theorem markTells_ok (w : World) (AW AR : Option Addr) (nW cW nR cR : Nat) (R : Nat) (ws rs : List Int) (hW : WsIn w AW nW cW ws) (hR : WsIn w AR nR cR rs) (hz : acheck nW nR ws rs = 0) (hr1 : 1 ≤ R) (hr2 : R ≤ 64) :
    Calls Try.prog 11 #[.agg #[.slice AW nW cW, .slice AR nR cR], .int .i64 R] w fun e w' => e = .returned (.bool true) ∧ Below w.heap.size w w' := by
  obtain ⟨h1, h2, h3, h4⟩ := acheck_zero hz
  have hB0 : Below w.heap.size w (w.alloc (.cells #[.slice AW nW cW, .slice AR nR cR] 55)) := (Below.refl _ w).alloc (Nat.le_refl _) _
  have BA := hide (Blk.new w 55 #[.slice AW nW cW, .slice AR nR cR])
  have HB0 := hide hB0
  have C1 := hide (mark_ok _ AW AR nW cW nR cR R ws rs (hW.below hB0) (hR.below hB0) hz hr1 hr2)
  have C6 := hide (fun w' (hb : Below w.heap.size w w') => refMark_any w' AW AR nW cW nR cR ws rs (hW.below hb) (hR.below hb) hz)
  have C2 := hide (fun w' (hb : Below w.heap.size w w') => sweep_ok w' AW AR nW cW nR cR ws rs (hW.below hb) (hR.below hb) hz)
  have C3 := hide (fun w' (hb : Below w.heap.size w w') => refSweep_any w' AW AR nW cW nR cR ws (hW.below hb) h1 h3)
  have C4 := hide (fun w' (hb : Below w.heap.size w w') => refAcheck_any w' AW AR nW cW nR cR ws rs (hW.below hb) (hR.below hb))
  simp only [hz] at C4
  obtain ⟨L, hL⟩ : ∃ L, sweepL ws (parse nW ws 0).1 = L := ⟨_, rfl⟩
  have hLl : L.length ≤ 1000 := by
    have h5 := (sweepL_mem (arn_of hW h1 h3) _ (Nat.le_refl _)).2
    rw [List.take_length, hL] at h5
    have h7 := parse_sum nW ws 0 (by omega) (fun x hx => (hW.wf x hx).1)
    have h8 : ∀ m : List (Nat × Nat), m.length ≤ (m.map fun p => 1 + p.2).sum := fun m => by
      induction m with
      | nil => simp
      | cons a m ih => simp only [List.map_cons, List.sum_cons, List.length_cons]; omega
    have h9 := h8 (parse nW ws 0).1
    have h10 := hW.len
    omega
  simp only [hL] at C2 C3
  have k3 : decide ((R : Int) < 1) = false := by simp; omega
  have k4 : decide ((64 : Int) < (R : Int)) = false := by simp; omega
  have hxl : (mkW ws (parse nW ws 0).1 (refS nW ws rs)).length ≤ 1000 := by rw [(arn_of hW h1 h3).length]; omega
  have hyl : rs.length ≤ 1000 := by rw [hR.len]; omega
  obtain ⟨xs, hxs⟩ : ∃ xs, mkW ws (parse nW ws 0).1 (refS nW ws rs) = xs := ⟨_, rfl⟩
  rw [hxs] at C1 hxl
  simp only [hxs] at C6
  have HXL := hide hxl
  have HYL := hide hyl
  have HLL := hide hLl
  clear hz hB0 h1 h2 h3 h4 hL hLl hr1 hr2 hxl hyl hxs
  go_enter Try.func11, Try.ntmps11
  go_wp2_with fail
  refine C1.out.mono ?_
  rintro e w1 ⟨X1, e1, X2, e2, rfl, hP1⟩
  have hb1 := hP1.below_
  have hAr0 := arn_rd hP1
  have bA1 := (BA.out.below_ hb1).alloc (.cells #[.slice X1 nW e1, .slice X2 nR e2] 55)
  have hB1 := HB0.out.trans (hb1.mono HB0.out.size)
  have hB1' := hB1.alloc hB1.size (.cells #[.slice X1 nW e1, .slice X2 nR e2] 55)
  have bV1 := Blk.new w1 55 #[.slice X1 nW e1, .slice X2 nR e2]
  have HAr1 := hide (hAr0.below ((Below.refl _ w1).alloc (Nat.le_refl _) (.cells #[.slice X1 nW e1, .slice X2 nR e2] 55)))
  obtain ⟨a1, a2, a3⟩ := bA1.rules
  have HB1 := hide hB1'
  have BA1 := hide bA1
  have BV1 := hide bV1
  clear hb1 hP1 hAr0 hB1 hB1' bA1 bV1 HB0 BA C1
  go_wp2_with fail
  refine (C2.out _ HB1.out).mono ?_
  rintro e w2 ⟨A2, n2, c2, rfl, hP2⟩
  have hb2 := hP2.below_
  have hn2 : n2 = L.length := by have := (hP2.rd_ 0 rfl).1; rw [blks_length] at this; omega
  subst hn2
  have hB2 := HB1.out.trans (hb2.mono HB1.out.size)
  have bA2 := BA1.out.below_ hb2
  have bV2 := BV1.out.below_ hb2
  clear a1 a2 a3
  obtain ⟨a1, a2, a3⟩ := bA2.rules
  have HB2 := hide hB2
  have BA2 := hide bA2
  have BV2 := hide bV2
  have HR2 := hide (hP2.rd_ 0 rfl)
  have HAr2 := hide (HAr1.out.below hb2)
  clear hb2 hP2 hB2 bA2 bV2 HB1 BA1 BV1 C2 HAr1
  go_wp2_with fail
  refine (C4.out _ HB2.out).mono ?_
  rintro e w3 ⟨rfl, hb3⟩
  have hB3 := HB2.out.trans (hb3.mono HB2.out.size)
  have bV3 := BV2.out.below_ hb3
  have bA3 := BA2.out.below_ hb3
  clear a1 a2 a3
  obtain ⟨a1, a2, a3⟩ := bA3.rules
  have HB3 := hide hB3
  have BV3 := hide bV3
  have HR3 := hide (HR2.out.below hb3)
  have HAr3 := hide (HAr2.out.below hb3)
  have BA3 := hide bA3
  clear hb3 hB3 bV3 bA3 HB2 BV2 BA2 C4 HR2 HAr2
  go_wp2_with fail
  refine (C3.out _ HB3.out).mono ?_
  rintro e w4 ⟨A4, n4, c4, rfl, hP4⟩
  have hb4 := hP4.below_
  have hn4 : n4 = L.length := by have := (hP4.rd_ 0 rfl).1; rw [blks_length] at this; omega
  subst hn4
  have C5 := hide (blocks_same w4 _ _ A2 A4 L.length c2 c4 L (by have := HLL.out; omega) (HR3.out.below hb4) (hP4.rd_ 0 rfl))
  have HB4 := hide (HB3.out.trans (hb4.mono HB3.out.size))
  have BV4 := hide (BV3.out.below_ hb4)
  have BA4 := hide (BA3.out.below_ hb4)
  have HAr4 := hide (HAr3.out.below hb4)
  clear a1 a2 a3 hb4 hP4 HB3 BV3 C3 HR3 BA3 HAr3
  go_wp2_with fail
  refine C5.out.mono ?_
  rintro e w5 ⟨rfl, hb5⟩
  have hB5 := HB4.out.trans (hb5.mono HB4.out.size)
  have bV5 := BV4.out.below_ hb5
  have bA5 := BA4.out.below_ hb5
  have u5 : w5.cell? ⟨w.heap.size, 0, none⟩ = some (.slice AW nW cW) := by rw [bA5.cell]; rfl
  have u6 : w5.cell? ⟨w.heap.size, 1, none⟩ = some (.slice AR nR cR) := by rw [bA5.cell]; rfl
  have v5 : w5.cell? ⟨w1.heap.size, 0, none⟩ = some (.slice X1 nW e1) := by rw [bV5.cell]; rfl
  have v6 : w5.cell? ⟨w1.heap.size, 1, none⟩ = some (.slice X2 nR e2) := by rw [bV5.cell]; rfl
  have HB5 := hide hB5
  have BV5 := hide bV5
  have HAr5 := hide (HAr4.out.below hb5)
  clear hb5 hB5 bV5 bA5 HB4 BV4 BA4 HAr4 C5
  go_wp2_with fail
  go_region_law (first
    | (try go_simp
       go_at_call 44
       refine (C6.out w5.drew HB5.out.drew).mono ?_
       rintro e w6 ⟨va, rfl, hb6, hAr6⟩
       have hB6 := HB5.out.drew.trans (hb6.mono HB5.out.size)
       have bV6 := BV5.out.drew.below_ hb6
       (have d5 : w6.cell? ⟨w1.heap.size, 0, none⟩ = some (.slice X1 nW e1) := by rw [bV6.cell]; rfl)
       (have d6 : w6.cell? ⟨w1.heap.size, 1, none⟩ = some (.slice X2 nR e2) := by rw [bV6.cell]; rfl)
       have hAr6' := (HAr5.out.below (Below.refl _ w5).drew).below hb6)
    | (try go_simp
       go_at_call 28
       refine (arenas_any w6 _ w5.drew _ _ xs rs HXL.out HYL.out hAr6' hAr6).mono ?_
       rintro e w7 ⟨rfl, hb7⟩
       have hB7 := hB6.trans (hb7.mono hB6.size)))
  all_goals
    go_wp2_with fail
    go_ret
    exact ⟨rfl, hB7⟩

theorem markTells_walk (w : World) (AW AR : Option Addr) (nW cW nR cR : Nat) (room : Int) (ws rs : List Int) (hW : WsIn w AW nW cW ws) (hR : WsIn w AR nR cR rs) :
    Calls Try.prog 11 #[.agg #[.slice AW nW cW, .slice AR nR cR], .int .i64 room] w fun e w' => e = .returned (.bool true) ∧ Below w.heap.size w w' := by
  by_cases hz : acheck nW nR ws rs = 0
  · by_cases hr : room < 1 ∨ 64 < room
    · exact markTells_room w AW AR nW cW nR cR room ws rs hW hR hz hr
    · have h := markTells_ok w AW AR nW cW nR cR room.toNat ws rs hW hR hz (by omega) (by omega)
      rw [show ((room.toNat : Nat) : Int) = room from by omega] at h
      exact h
  · exact markTells_bad w AW AR nW cW nR cR room ws rs hW hR hz
end Go.Proofs.Ytpbafmdebflbpaa

namespace Go.Proofs.Ytpbafmdebflbpaa
open Go.RowKit Go.Maps

/-- What is laid for the first k objects. -/
def sldW (ws : List Int) (pre : List (Nat × Nat)) (S : Nat → Bool) (L : List Int) (k : Nat) : List Int := (mkd S k).flatMap (doneS ws pre L)
theorem sldW_succ (ws : List Int) (pre : List (Nat × Nat)) (S : Nat → Bool) (L : List Int) (k : Nat) : sldW ws pre S L (k + 1) = sldW ws pre S L k ++ if S k = true then doneS ws pre L (k : Int) else [] := by
  unfold sldW
  rw [mkd_succ, List.flatMap_append]
  congr 1
  split <;> simp
theorem doneS_nat {nW : Nat} {ws : List Int} (hok : ArnOk nW ws) (L : List Int) {k : Nat} (hk : k < (parse nW ws 0).1.length) : doneS ws (parse nW ws 0).1 L (k : Int) = headW (lenN (parse nW ws 0).1 k) false (ageN ws (parse nW ws 0).1 k) :: (fldN ws (parse nW ws 0).1 k).map (transW (parse nW ws 0).1 L) := by
  obtain ⟨_, _, h3, _, _, h6, h7⟩ := hok.obj hk
  have e : plc (parse nW ws 0).1 (k : Int) = plcN (parse nW ws 0).1 k := rfl
  have e2 : lenO (parse nW ws 0).1 (k : Int) = lenN (parse nW ws 0).1 k := rfl
  unfold doneS older headOf
  rw [e, e2]
  dsimp only
  rw [h3]
  unfold ageN at h6 h7 ⊢
  rw [if_neg (by omega), Int.add_zero]
  rfl
theorem sldW_len {nW : Nat} {ws : List Int} (hok : ArnOk nW ws) (S : Nat → Bool) (L : List Int) (k : Nat) (hk : k ≤ (parse nW ws 0).1.length) : (sldW ws (parse nW ws 0).1 S L k).length = sumO (parse nW ws 0).1 (mkd S k) := by
  induction k with
  | zero => rfl
  | succ k ih =>
    rw [sldW_succ, mkd_succ, List.length_append, ih (by omega)]
    cases h : S k with
    | false => simp
    | true =>
      rw [if_pos rfl, if_pos rfl, sumO_snoc, doneS_nat hok L (by omega), List.length_cons, List.length_map, hok.fld (by omega)]
      have e2 : lenO (parse nW ws 0).1 (k : Int) = lenN (parse nW ws 0).1 k := rfl
      rw [e2]
      omega

set_option maxRecDepth 100000 in
set_option maxHeartbeats 4000000 in
theorem walkSd_any (w : World) (bo bt bm b nn cm nr cr nr2 cr2 nW : Nat) (D : DataW Unit) (Ar Am Ar2 : Option Addr) (ws L : List Int) (S : Nat → Bool) (hok : ArnOk nW ws) (hwf : ∀ x ∈ ws, 0 ≤ x ∧ x ≤ 18446744073709551615) (hs : (allI (SdI bo bt bm b nn D none 0 0 [] Ar nr cr Am nW cm Ar2 nr2 cr2)).P w)
    (hV : WsD w (fun g => ¬ (allI (SdI bo bt bm b nn D none 0 0 [] Ar nr cr Am nW cm Ar2 nr2 cr2)).fp g) Am nW cm (mkW ws (parse nW ws 0).1 S)) (hN : NowOk (parse nW ws 0).1 L D) (hL : ∀ k, k < (parse nW ws 0).1.length → S k = true → ∀ x ∈ fldN ws (parse nW ws 0).1 k, GoodW (parse nW ws 0).1 x ∧ (unR x = true → (ixOf (parse nW ws 0).1 (unA x) : Int) ∈ L)) (hq : ∀ i ∈ L, newAt (parse nW ws 0).1 L i < 256) :
    Calls Try.prog 74 #[.slice Am nW cm, .func (.func 93) #[] #[.pointer (some ⟨bo, 0, none⟩), .pointer (some ⟨bm, 0, none⟩), .pointer (some ⟨bt, 0, none⟩)]] w fun e w' => ∃ A n c, e = .returned (.bool true) ∧
      Sep (allI (SdI bo bt bm b nn D none 0 0 [] Ar nr cr Am nW cm Ar2 nr2 cr2)).fp w w' [allI (SdI bo bt bm b nn D A n c (sldW ws (parse nW ws 0).1 S L (parse nW ws 0).1.length) Ar nr cr Am nW cm Ar2 nr2 cr2)] := by
  have C := walkV_any 93 (enter_of Try.func93 (by kernel_rfl) (by kernel_rfl)) #[.pointer (some ⟨bo, 0, none⟩), .pointer (some ⟨bm, 0, none⟩), .pointer (some ⟨bt, 0, none⟩)] w Am nW cm (mkW ws (parse nW ws 0).1 S) (mk_ok hok S) (allI (SdI bo bt bm b nn D none 0 0 [] Ar nr cr Am nW cm Ar2 nr2 cr2)) (fun k it => ∃ A c, it = allI (SdI bo bt bm b nn D A (sldW ws (parse nW ws 0).1 S L k).length c (sldW ws (parse nW ws 0).1 S L k) Ar nr cr Am nW cm Ar2 nr2 cr2)) ⟨none, 0, rfl⟩ hs hV.rd (mk_wf hok hwf S)
  rw [mk_parse hok S] at C
  refine (C ?_).mono ?_
  · rintro k it w' hk ⟨A, c, rfl⟩ hP hrd hlo
    obtain ⟨g1, g2, g3, g4⟩ := mk_parts hok S hk
    obtain ⟨o1, o2, o3, o4, o5, o6, o7⟩ := hok.obj (i := k) hk
    have hfld := mk_fld hok S hk
    have hO := mkd_ok S (parse nW ws 0).1.length k (by omega)
    have hsum := sumO_le hok.pos hO
    have hsl := sldW_len hok S L k (by omega)
    have hwl := hok.len
    have hmx := hok.max
    rw [g2, g3]
    cases hsk : S k with
    | false =>
      refine (slide1_no w' bo bt bm b nn _ _ nr cr nW cm nr2 cr2 D _ Ar Am Ar2 _ _ _ _ hP).mono ?_
      rintro e w'' ⟨rfl, hS⟩
      have e1 : sldW ws (parse nW ws 0).1 S L (k + 1) = sldW ws (parse nW ws 0).1 S L k := by rw [sldW_succ, hsk]; simp
      refine ⟨rfl, _, ⟨A, c, rfl⟩, ?_⟩
      rw [e1]
      exact hS
    | true =>
      have hD : ∀ g, (allI (SdI bo bt bm b nn D A (sldW ws (parse nW ws 0).1 S L k).length c (sldW ws (parse nW ws 0).1 S L k) Ar nr cr Am nW cm Ar2 nr2 cr2)).fp g → ¬ (g < w.heap.size ∧ ¬ (allI (SdI bo bt bm b nn D none 0 0 [] Ar nr cr Am nW cm Ar2 nr2 cr2)).fp g) := fun g hg hd => by
        rcases hlo g hg with h | h
        · exact hd.2 h
        · omega
      refine (slide1_yes w' (fun g => g < w.heap.size ∧ ¬ (allI (SdI bo bt bm b nn D none 0 0 [] Ar nr cr Am nW cm Ar2 nr2 cr2)).fp g) bo bt bm b nn _ _ nr cr nW cm nr2 cr2 nW D _ Ar Am Ar2 ws (mkW ws (parse nW ws 0).1 S) _ (fldN ws (parse nW ws 0).1 k) L _ _ _ hP hD ⟨hrd, hV.cap, hV.nil, hV.wf⟩ hmx g4 g1 o4 o5 o6 o7 (by omega) hfld hN (hL k hk hsk) hq).mono ?_
      rintro e w'' ⟨A', c', rfl, hS⟩
      have e1 : sldW ws (parse nW ws 0).1 S L (k + 1) = sldW ws (parse nW ws 0).1 S L k ++ headW (lenN (parse nW ws 0).1 k) false (ageN ws (parse nW ws 0).1 k) :: (fldN ws (parse nW ws 0).1 k).map (transW (parse nW ws 0).1 L) := by rw [sldW_succ, hsk, if_pos rfl, doneS_nat hok L hk]
      refine ⟨rfl, _, ⟨A', c', rfl⟩, ?_⟩
      have e2 : (sldW ws (parse nW ws 0).1 S L (k + 1)).length = (sldW ws (parse nW ws 0).1 S L k).length + (1 + lenN (parse nW ws 0).1 k) := by
        rw [e1, List.length_append, List.length_cons, List.length_map, hok.fld hk]; omega
      rw [e2, e1]
      exact hS
  · rintro e w' ⟨rfl, it, ⟨A, c, rfl⟩, hS⟩
    exact ⟨A, _, c, rfl, hS⟩

theorem perm_s6 {α : Type} (r m j t q o : α) : [r, m, j, t, q, o].Perm [r, o, j, t, m, q] := by
  classical
  rw [List.perm_iff_count]
  intro x
  simp only [List.count_cons, List.count_nil]
  omega

set_option maxRecDepth 100000 in
set_option maxHeartbeats 16000000 in
theorem slide_ok (w : World) (AW AR : Option Addr) (nW cW nR cR : Nat) (ws rs : List Int) (hW : WsIn w AW nW cW ws) (hR : WsIn w AR nR cR rs) (hz : acheck nW nR ws rs = 0) :
    Calls Try.prog 50 #[.agg #[.slice AW nW cW, .slice AR nR cR]] w fun e w' => ∃ v, e = .returned (.tuple #[v, .int .i64 0]) ∧ Below w.heap.size w w' ∧
      ArenaRd w w' v ((reachR (graphOf ws (parse nW ws 0).1) (rs.map (turnW (ixOf (parse nW ws 0).1)))).flatMap (doneS ws (parse nW ws 0).1 (reachR (graphOf ws (parse nW ws 0).1) (rs.map (turnW (ixOf (parse nW ws 0).1))))))
        (rs.map (transW (parse nW ws 0).1 (reachR (graphOf ws (parse nW ws 0).1) (rs.map (turnW (ixOf (parse nW ws 0).1)))))) := by
  obtain ⟨h1, h2, h3, h4⟩ := acheck_zero hz
  have hok := arn_of hW h1 h3
  have hgood := good_arn hW hR hz
  have hgl : (graphOf ws (parse nW ws 0).1).length = (parse nW ws 0).1.length := by unfold graphOf; rw [List.length_map]
  have hvg : ∀ fs ∈ graphOf ws (parse nW ws 0).1, ValsOk (graphOf ws (parse nW ws 0).1).length fs := by rw [hgl]; exact ValsOk.of_graph fun x hx => hgood x (List.mem_append_right _ hx)
  have hvr : ValsOk (graphOf ws (parse nW ws 0).1).length (rs.map (turnW (ixOf (parse nW ws 0).1))) := by rw [hgl]; exact good_vals fun x hx => hgood x (List.mem_append_left _ hx)
  obtain ⟨hcl, hcr⟩ := reach_closed hvg hvr
  have hRO := reach_ok (gs := graphOf ws (parse nW ws 0).1) (vs := rs.map (turnW (ixOf (parse nW ws 0).1)))
  rw [hgl] at hRO
  have hmk : mkd (refS nW ws rs) (parse nW ws 0).1.length = reachR (graphOf ws (parse nW ws 0).1) (rs.map (turnW (ixOf (parse nW ws 0).1))) := by
    have h := reach_list (gs := graphOf ws (parse nW ws 0).1) (vs := rs.map (turnW (ixOf (parse nW ws 0).1))) (refS nW ws rs) (fun i _ => rfl)
    rw [hgl] at h
    exact h.symm
  have hq : ∀ i ∈ reachR (graphOf ws (parse nW ws 0).1) (rs.map (turnW (ixOf (parse nW ws 0).1))), newAt (parse nW ws 0).1 (reachR (graphOf ws (parse nW ws 0).1) (rs.map (turnW (ixOf (parse nW ws 0).1)))) i < 256 := fun i hi => by
    have := newAt_lt hok.pos hRO hi
    have := hok.len
    omega
  have hin : ∀ x, unR x = true → (turnW (ixOf (parse nW ws 0).1) x).2 = (ixOf (parse nW ws 0).1 (unA x) : Int) := fun x hr => by unfold turnW; rw [hr]; rfl
  have hLr : ∀ x ∈ rs, GoodW (parse nW ws 0).1 x ∧ (unR x = true → (ixOf (parse nW ws 0).1 (unA x) : Int) ∈ reachR (graphOf ws (parse nW ws 0).1) (rs.map (turnW (ixOf (parse nW ws 0).1)))) := fun x hx => ⟨hgood x (List.mem_append_left _ hx), fun hr => by
    have h5 := hcr (turnW (ixOf (parse nW ws 0).1) x) (List.mem_map.2 ⟨x, hx, rfl⟩) hr
    rw [hin x hr] at h5
    exact h5⟩
  have hLf : ∀ k, k < (parse nW ws 0).1.length → refS nW ws rs k = true → ∀ x ∈ fldN ws (parse nW ws 0).1 k, GoodW (parse nW ws 0).1 x ∧ (unR x = true → (ixOf (parse nW ws 0).1 (unA x) : Int) ∈ reachR (graphOf ws (parse nW ws 0).1) (rs.map (turnW (ixOf (parse nW ws 0).1)))) := fun k hk hs x hx =>
    ⟨fld_good (fun x hx => hgood x (List.mem_append_right _ hx)) k hk x hx, fun hr => by
      have h5 := hcl (k : Int) (by unfold refS at hs; simpa using hs) (turnW (ixOf (parse nW ws 0).1) x) (by rw [fieldsI_graph (by omega) (by omega)]; exact List.mem_map.2 ⟨x, hx, rfl⟩) hr
      rw [hin x hr] at h5
      exact h5⟩
  have hS0 := ((Sep.nil No w).blkAt 55 #[.slice AW nW cW, .slice AR nR cR] rfl).blkAt 55 #[.slice none 0 0, .slice none 0 0] (g := w.heap.size + 1) (by simp)
  obtain ⟨a1, a2, a3, a4⟩ := hS0.rules 0 (g := w.heap.size) (t := 55) rfl
  have a5 := a1 0
  have a6 := a1 1
  have HS0 := hide hS0
  have C1 := mark_ok _ AW AR nW cW nR cR 64 ws rs (hW.below hS0.below_) (hR.below hS0.below_) hz (by omega) (by omega)
  rw [show ((64 : Nat) : Int) = 64 from rfl] at C1
  have C1 := hide C1
  have hwf := hW.wf
  have C3 := hide (fun w' Aw cw hw => slots_any w' Aw nW cw ws (refS nW ws rs) hok hw hwf)
  have C4 := hide (fun w' b nn D hX hM hN => slturned_any w' AR nR cR b nn nW D ws rs _ hX (by omega) hM hN hLr hq)
  have C5 := hide (fun w' bo bt bm b nn cm nr cr nr2 cr2 D Ar Am Ar2 hs hV hN => walkSd_any w' bo bt bm b nn cm nr cr nr2 cr2 nW D Ar Am Ar2 ws _ (refS nW ws rs) hok hwf hs hV hN hLf hq)
  have HMF := hide (mk_wf hok hwf (refS nW ws rs))
  have HRR := hide hR
  have hsl : sldW ws (parse nW ws 0).1 (refS nW ws rs) (reachR (graphOf ws (parse nW ws 0).1) (rs.map (turnW (ixOf (parse nW ws 0).1)))) (parse nW ws 0).1.length = (reachR (graphOf ws (parse nW ws 0).1) (rs.map (turnW (ixOf (parse nW ws 0).1)))).flatMap (doneS ws (parse nW ws 0).1 (reachR (graphOf ws (parse nW ws 0).1) (rs.map (turnW (ixOf (parse nW ws 0).1))))) := by unfold sldW; rw [hmk]
  rw [hsl] at C5
  rw [hmk] at C3
  obtain ⟨L, hL⟩ : ∃ L, reachR (graphOf ws (parse nW ws 0).1) (rs.map (turnW (ixOf (parse nW ws 0).1))) = L := ⟨_, rfl⟩
  simp only [hL] at C3 C4 C5 ⊢
  obtain ⟨pre, hpre⟩ : ∃ pre, (parse nW ws 0).1 = pre := ⟨_, rfl⟩
  rw [hpre] at C1 C3 C4 C5 HMF ⊢
  obtain ⟨V, hV⟩ : ∃ V, mkW ws pre (refS nW ws rs) = V := ⟨_, rfl⟩
  rw [hV] at C1 C3 C5 HMF
  obtain ⟨xs, hxs⟩ : ∃ xs, L.flatMap (doneS ws pre L) = xs := ⟨_, rfl⟩
  obtain ⟨ys, hys⟩ : ∃ ys, rs.map (transW pre L) = ys := ⟨_, rfl⟩
  rw [hxs] at C5
  rw [hys] at C4
  rw [hxs, hys]
  clear hS0 hz h3 h4 hok hgood hgl hvg hvr hcl hcr hRO hmk hq hin hLr hLf hsl hL hpre hV hxs hys hW hR hwf a1 a4
  go_enter Try.func50, Try.ntmps50
  go_wp2_with fail
  refine C1.out.mono ?_
  rintro e w2 ⟨Aw, cw, Ar, cr, rfl, hP⟩
  have hWs : WsIn w2 Aw nW cw V := wsIn_of_row (hP.get 0 rfl) HMF.out
  have hB2 := HS0.out.below_.trans (hP.below_.mono HS0.out.below_.size)
  have BA2 := (HS0.out.get 0 (i := blkI w.heap.size 55 #[.slice AW nW cW, .slice AR nR cR]) rfl)
  have BR2 := (HS0.out.get 1 (i := blkI (w.heap.size + 1) 55 #[.slice none 0 0, .slice none 0 0]) rfl)
  have bA2 : Blk w2 w.heap.size 55 #[.slice AW nW cW, .slice AR nR cR] := Blk.below_ BA2 hP.below_
  have bR2 : Blk w2 (w.heap.size + 1) 55 #[.slice none 0 0, .slice none 0 0] := Blk.below_ BR2 hP.below_
  have hS2 := (Sep.nil No w2).blkAt 55 #[.slice Aw nW cw, .slice Ar nR cr] rfl
  obtain ⟨m1, m2, m3, m4⟩ := hS2.rules 0 (g := w2.heap.size) (t := 55) rfl
  have m5 := m1 0
  have C := hide (C3.out _ Aw cw (hWs.below hS2.below_).rd)
  have HWS := hide hWs
  have HB2 := hide hB2
  have HA2 := hide bA2
  have HR2 := hide bR2
  have HS2 := hide hS2
  clear hWs hP hB2 BA2 BR2 bA2 bR2 hS2 C1 C3 HS0 m1 m4 a2 a3 a5 a6
  go_wp2_with fail
  refine C.out.mono ?_
  rintro e w4 ⟨b, D, rfl, hN, hP⟩
  have hS4 := (HS2.out.snocNew hP.below_ _ (hP.get 0 rfl) (fun g hg => (hP.lo 0 rfl g hg).resolve_left (fun h => h))).blkAt 117 #[.map (some b)] rfl
  have hb4 := hS4.below_
  obtain ⟨u1, u2, u3⟩ := (HA2.out.below_ hb4).rules
  have u5 := u1 1
  obtain ⟨n1, n2, n3, n4⟩ := hS4.rules 2 (g := w4.heap.size) (t := 117) rfl
  have n5 := n1 0
  have C := hide (C4.out _ b L.length D ((HRR.out.below (HB2.out.trans (hb4.mono HB2.out.size))).rd) (hS4.get 1 rfl) hN)
  have HS4 := hide hS4
  have HN := hide hN
  clear hP hS4 hb4 hN HS2 u1 n1 n4 m2 m3 m5 C4
  go_wp2_with fail
  refine C.out.mono ?_
  rintro e w6 ⟨Ar2, c2, rfl, hP⟩
  have hS6 := ((HS4.out.snocNew hP.below_ _ (hP.get 0 rfl) (fun g hg => (hP.lo 0 rfl g hg).resolve_left (fun h => h))).blkAt 55 #[.slice none 0 0, .slice Ar2 nR c2] rfl).nilRow0 24 1
  have hS7 : Sep No w2 _ (allI (SdI w6.heap.size w4.heap.size w2.heap.size b L.length D none 0 0 [] Ar2 nR c2 Aw nW cw Ar nR cr) :: [rowI 24 1 Ar2 nR c2 (u64s ys)]) := Sep.join (l := [_, _, _, _, _]) (hS6.perm (perm_s6 _ _ _ _ _ _))
  obtain ⟨m1, m2, m3, m4⟩ := (hS7.split).rules 4 (g := w2.heap.size) (t := 55) rfl
  have m5 := m1 0
  have C := hide (C5.out _ w6.heap.size w4.heap.size w2.heap.size b L.length cw nR c2 nR cr D Ar2 Aw Ar (hS7.get 0 rfl) ⟨((HWS.out.rd.more (D' := fun g => g < w2.heap.size) (fun k hk _ => hk)).below hS7.below_).more (fun g _ hg hf => by
      rcases hS7.lo 0 rfl g hf with h | h
      · exact h
      · omega), HWS.out.cap, HWS.out.nil, HWS.out.wf⟩ HN.out)
  have HS7 := hide hS7
  clear hP hS6 hS7 HS4 C5 m1 m4 u2 u3 u5 n2 n3 n5 HN HWS
  go_wp2_with fail
  refine C.out.mono ?_
  rintro e w8 ⟨A, n, c, rfl, hP⟩
  have hS8 := (HS7.out.call 0 rfl hP).split
  obtain ⟨o1, o2, o3, o4⟩ := hS8.rules 1 (g := w6.heap.size) (t := 55) rfl
  have o5 := o1 0
  have o6 := o1 1
  have hR8 := HR2.out.below_ hS8.below_
  obtain ⟨y1, y2, y3⟩ := hR8.rules
  have hB8 := HB2.out.trans (hS8.below_.mono HB2.out.size)
  have k1 := hS8.rd 0 rfl
  have k2 := hS8.rd 5 rfl
  have hr2 := HR2.out.lt
  have HK1 := hide k1
  have HK2 := hide k2
  have HR8 := hide hR8
  have HB8 := hide hB8
  clear hP hS8 HS7 C o1 o4 m2 m3 m5 hR8 hB8 k1 k2
  go_wp2_with fail
  have hB9 := (HB8.out.setCell (p := ⟨w.heap.size + 1, 0, none⟩) (by simp) (.slice A n c)).setCell (p := ⟨w.heap.size + 1, 1, none⟩) (by simp) (.slice Ar2 nR c2)
  have hc : Chg (fun g => g = w.heap.size + 1) w8 ((w8.setCell ⟨w.heap.size + 1, 0, none⟩ (.slice A n c)).setCell ⟨w.heap.size + 1, 1, none⟩ (.slice Ar2 nR c2)) := ((Chg.refl (fun g => g = w.heap.size + 1) w8).setCell (p := ⟨w.heap.size + 1, 0, none⟩) (.inl rfl) _).setCell (p := ⟨w.heap.size + 1, 1, none⟩) (.inl rfl) _
  refine bodyPost_ret (v := .tuple #[.agg #[.slice A n c, .slice Ar2 nR c2], .int .i64 0]) (by simp [results, Try.results50, go_sem, y1]) rfl ⟨_, rfl, hB9, ?_⟩
  exact ⟨_, _, _, _, _, _, rfl, (HK1.out.chg hc (fun g h1 h2 => by omega)).more (fun g _ h => by omega), (HK2.out.chg hc (fun g h1 h2 => by omega)).more (fun g _ h => by omega)⟩

set_option maxRecDepth 100000 in
set_option maxHeartbeats 4000000 in
theorem slide_bad (w : World) (AW AR : Option Addr) (nW cW nR cR : Nat) (ws rs : List Int) (hW : WsIn w AW nW cW ws) (hR : WsIn w AR nR cR rs) (hz : acheck nW nR ws rs ≠ 0) :
    Calls Try.prog 50 #[.agg #[.slice AW nW cW, .slice AR nR cR]] w fun e w' => e = .returned (.tuple #[.agg #[.slice none 0 0, .slice none 0 0], .int .i64 (acheck nW nR ws rs)]) ∧ Below w.heap.size w w' := by
  have hS0 := ((Sep.nil No w).blkAt 55 #[.slice AW nW cW, .slice AR nR cR] rfl).blkAt 55 #[.slice none 0 0, .slice none 0 0] (g := w.heap.size + 1) (by simp)
  obtain ⟨a1, a2, a3, a4⟩ := hS0.rules 0 (g := w.heap.size) (t := 55) rfl
  have HS0 := hide hS0
  have C1 := hide (mark_bad _ AW AR nW cW nR cR 64 ws rs (hW.below hS0.below_) (hR.below hS0.below_) hz)
  obtain ⟨x, hx⟩ : ∃ x, acheck nW nR ws rs = x := ⟨_, rfl⟩
  rw [hx] at C1 hz ⊢
  have y1 : (x != 0) = true := by rw [bne_iff_ne]; exact hz
  clear hS0 hx hz
  go_enter Try.func50, Try.ntmps50
  go_wp2_with fail
  refine C1.out.mono ?_
  rintro e w1 ⟨rfl, hb1⟩
  have hS1 := HS0.out.below hb1
  have hS1 := hS1.blkAt 55 #[.slice none 0 0, .slice none 0 0] rfl
  have HS1 := hide hS1
  clear a1 a2 a3 a4
  obtain ⟨q1, q2, q3, q4⟩ := hS1.rules 1 (g := w.heap.size + 1) (t := 55) rfl
  clear hS1
  go_wp2_with fail
  have hF := (HS1.out.set_ 1 (g := w.heap.size + 1) (t := 55) rfl 0 (.slice none 0 0)).set_ 1 (g := w.heap.size + 1) (t := 55) rfl 1 (.slice none 0 0)
  refine bodyPost_ret (v := .tuple #[.agg #[.slice none 0 0, .slice none 0 0], .int .i64 x]) (by simp [results, Try.results50, go_sem, q1]) rfl ⟨rfl, hF.below_⟩
end Go.Proofs.Ytpbafmdebflbpaa
