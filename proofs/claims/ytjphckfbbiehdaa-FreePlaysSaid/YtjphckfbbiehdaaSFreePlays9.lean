/- Words are taken out of the list. Words are given back to the list. -/
import Derived.Test.YtjphckfbbiehdaaSFreePlays8
import Derived.Deep.DeepCutAuto
set_option linter.unusedSimpArgs false
set_option linter.unusedVariables false
namespace Go.Proofs.Ytjphckfbbiehdaa
open Go.RowKit
theorem bkV_set (l : List Bk) (k : Nat) (b : Bk) (hk : k < l.length) : bkV (l.set k b) = ((bkV l).set (k * 2) (.int .i64 (b.1 : Int))).set (k * 2 + 1) (.int .i64 (b.2 : Int)) := by
  unfold bkV
  induction l generalizing k with
  | nil => cases hk
  | cons c l ih =>
    cases k with
    | zero => rfl
    | succ k =>
      have h := ih k (by simpa using hk)
      simp only [List.set_cons_succ, List.flatMap_cons]
      rw [h, show (k + 1) * 2 = k * 2 + 1 + 1 by omega]
      rfl
set_option maxRecDepth 100000 in
set_option maxHeartbeats 16000000 in
theorem frtake_any {F : Nat → Prop} {W0 w : World} {B : Nat} {t : FrT} {x : Item} (h : Sep F W0 w (x :: frL B t)) (n : Nat) (h0 : 0 < n) (hn : n ≤ 300) (p : Int) (hp : 1 ≤ p ∧ p ≤ 4) (hl : t.a.F.length ≤ 300) (hb : ∀ b ∈ t.a.F, b.1 + b.2 ≤ 300) (hN : t.N ≤ 1000) :
    Calls Try.prog 49 #[.pointer (some ⟨B, 0, none⟩), .int .i64 (n : Int), .int .i64 p] w fun e w' => (pickK t.a.F n p t.a.last t.a.F.length = none ∧ e = .returned (.tuple #[.int .i64 0, .bool false]) ∧ Sep F W0 w' (x :: frL B t)) ∨
      ∃ i, pickK t.a.F n p t.a.last t.a.F.length = some i ∧ e = .returned (.tuple #[.int .i64 ((t.a.F.getD i (0, 0)).1 : Int), .bool true]) ∧ ∃ t' : FrT, t'.a = t.a.take i n ∧ t'.N = t.N + 1 ∧ Sep F W0 w' (x :: frL B t') := by
  have hmx : Try.prog.follows .mixedOrders = true := by kernel_rfl
  obtain ⟨m, hm⟩ : ∃ m, t.a.F.length = m := ⟨_, rfl⟩
  have hS1 : Sep F W0 w [x, blkI B 131 #[.slice (some ⟨t.g, 0, none⟩) m t.c, .map (some t.mb), .int .i64 (t.a.last : Int)], rowI 231 2 (some ⟨t.g, 0, none⟩) m t.c (bkV t.a.F), fmI t.mb t.N t.a.f] := by rw [← hm]; exact h
  obtain ⟨b1, b2, b3, -⟩ := hS1.rules 1 (g := B) (t := 131) rfl
  have HW := hide (how_any w B t.a.last p ((b1 2).trans rfl) b3)
  have HS1 := hide hS1
  have HM := hide hm
  rw [hm] at hl ⊢
  clear b1 b2 b3 hS1 h hm
  go_enter Try.func49, Try.ntmps49
  go_wp2_with fail
  refine HW.out.mono ?_
  rintro e w1 ⟨hb1, hh⟩
  obtain ⟨_, _, kf, caps, rfl, hK⟩ := hh.resolve_right (fun hno => hno.1 hp)
  have hS2 := HS1.out.below hb1
  obtain ⟨b1, b2, b3, -⟩ := hS2.rules 1 (g := B) (t := 131) rfl
  have CP := hide (pick_any w1 B t.g m t.c n t.a.last kf caps p t.a.F (by omega) ((b1 0).trans rfl) b3 (hS2.rd_ 2 rfl) hK)
  have HS2 := hide hS2
  clear b1 b2 b3 hS2 hb1 hK HW HS1
  go_wp2_with fail
  refine CP.out.mono ?_
  rintro e w2 ⟨rfl, hb2⟩
  have hS3 := HS2.out.below hb2
  clear hb2 CP HS2
  obtain ⟨o, ho⟩ : ∃ o, pickK t.a.F n p t.a.last m = o := ⟨_, rfl⟩
  rw [ho]
  cases o with
  | none =>
    have HS3 := hide hS3
    have HO := hide ho
    rw [show pickZ none = -1 from rfl]
    clear hS3 ho
    go_wp2_with fail
    refine bodyPost_ret (v := .tuple #[.int .i64 0, .bool false]) (by simp [results, Try.results49, go_sem]) rfl (.inl ⟨HO.out, rfl, ?_⟩)
    have h9 := HS3.out
    rw [← HM.out] at h9
    exact h9
  | some i =>
    obtain ⟨hi, hfit⟩ := pickK_some ho
    rw [show pickZ (some i) = (i : Int) from rfl]
    have hil : i < t.a.F.length := by rw [HM.out]; exact hi
    have hgd : t.a.F.getD i (0, 0) = t.a.F[i] := by rw [List.getD_eq_getElem?_getD, List.getElem?_eq_getElem hil]; rfl
    have hbi := hb t.a.F[i] (List.getElem_mem hil)
    obtain ⟨g2, hg2, _, _, e0, e1, f0, f1⟩ := bk_at (hS3.get 2 rfl) hi
    obtain rfl : t.g = g2 := by injection hg2 with hg2; injection hg2
    obtain ⟨b1, b2, b3, -⟩ := hS3.rules 1 (g := B) (t := 131) rfl
    have b5 := (b1 0).trans (show _ = some (.slice (some ⟨t.g, 0, none⟩) m t.c) from rfl)
    rw [hgd] at hfit
    obtain ⟨⟨ba, bl⟩, hbb⟩ : ∃ b, t.a.F[i] = b := ⟨_, rfl⟩
    rw [hbb] at hfit hbi e0 e1 hgd
    dsimp only at hfit hbi e0 e1
    have HO := hide ho
    have HG := hide hgd
    have HIL := hide hil
    have HBB := hide hbb
    obtain ⟨aE, haE⟩ : ∃ z, z = ba + n := ⟨_, rfl⟩
    obtain ⟨lE, hlE⟩ : ∃ z, z = bl - n := ⟨_, rfl⟩
    have v1 : IntKind.i64.wrap ((ba : Int) + (n : Int)) = (aE : Int) := by rw [wrapF64 _ (by omega) (by omega)]; omega
    have v2 : IntKind.i64.wrap ((bl : Int) - (n : Int)) = (lE : Int) := by rw [wrapF64 _ (by omega) (by omega)]; omega
    have i1 : (i : Int) < (m : Int) := by omega
    have i2 : decide ((i : Int) < 0) = false := by simp
    have hS4 := ((hS3.store 2 rfl (i * 2) (.int .i64 (aE : Int))).store 2 rfl (i * 2 + 1) (.int .i64 (lE : Int))).drew
    rw [show (([x, blkI B 131 #[.slice (some ⟨t.g, 0, none⟩) m t.c, .map (some t.mb), .int .i64 (t.a.last : Int)], rowI 231 2 (some ⟨t.g, 0, none⟩) m t.c (bkV t.a.F), fmI t.mb t.N t.a.f].set 2 (rowI 231 2 (some ⟨t.g, 0, none⟩) m t.c ((bkV t.a.F).set (i * 2) (.int .i64 (aE : Int))))).set 2 (rowI 231 2 (some ⟨t.g, 0, none⟩) m t.c (((bkV t.a.F).set (i * 2) (.int .i64 (aE : Int))).set (i * 2 + 1) (.int .i64 (lE : Int))))) = [x, blkI B 131 #[.slice (some ⟨t.g, 0, none⟩) m t.c, .map (some t.mb), .int .i64 (t.a.last : Int)], rowI 231 2 (some ⟨t.g, 0, none⟩) m t.c (bkV (t.a.F.set i (aE, lE))), fmI t.mb t.N t.a.f] from by rw [bkV_set _ _ _ hil]; rfl] at hS4
    have HS4 := hide hS4
    have HS3 := hide hS3
    clear hS3 hS4 ho hgd hil hbb b1
    go_upto_region 7 with fail
    go_cut [] (fun wx => Sep F W0 wx [x, blkI B 131 #[.slice (some ⟨t.g, 0, none⟩) m t.c, .map (some t.mb), .int .i64 (t.a.last : Int)], rowI 231 2 (some ⟨t.g, 0, none⟩) m t.c (bkV (t.a.F.set i (aE, lE))), fmI t.mb t.N t.a.f])
    case first =>
      clear haE hlE
      go_region
      all_goals go_wp2_with fail
      all_goals go_meet
      all_goals exact HS4.out
    case rest =>
      clear HS4 e0 e1 f0 f1 b2 b3 b5
      obtain ⟨b1, b2, b3, -⟩ := hcut.rules 1 (g := B) (t := 131) rfl
      have b5 := (b1 0).trans (show _ = some (.slice (some ⟨t.g, 0, none⟩) m t.c) from rfl)
      have hbm := bk_at (hcut.get 2 rfl) hi
      obtain ⟨g2, hg2, hgl, hsl, e0, e1, f0, f1⟩ := hbm
      obtain rfl : t.g = g2 := by injection hg2 with hg2; injection hg2
      rw [List.getElem_set_self] at e0 e1
      dsimp only at e0 e1
      have HaE := hide haE
      have HlE := hide hlE
      have k1 : IntKind.i64.wrap ((i : Int) + 1) = (i : Int) + 1 := wrapF64 _ (by omega) (by omega)
      have x1 : wfI (ba : Int) := wfI_of (by omega) (by omega)
      have x2 : wfI (n : Int) := wfI_of (by omega) (by omega)
      by_cases hz : lE = 0
      · have q1 : ((lE : Int) == 0) = true := by simp [hz]
        have q2 : (lE : Int) = 0 := by omega
        have HD := hide (frdelete_any hcut 2 rfl hi (by omega))
        have HZ := hide hz
        clear hcut haE hlE HS3 hz
        go_wp2_with fail
        refine HD.out.mono ?_
        rintro e w6 ⟨rfl, hS6⟩
        replace hS6 : Sep F W0 w6 [x, blkI B 131 #[.slice (some ⟨t.g, 0, none⟩) m t.c, .map (some t.mb), .int .i64 (t.a.last : Int)], rowI 231 2 (some ⟨t.g, 0, none⟩) (m - 1) t.c (bkV (t.a.F.eraseIdx i)), fmI t.mb t.N t.a.f] := by
          rw [← List.eraseIdx_set_eq (l := t.a.F) (i := i) (a := (aE, lE))]; exact hS6
        have hS7 := hS6.set_ 1 (g := B) (t := 131) rfl 0 (.slice (some ⟨t.g, 0, none⟩) (m - 1) t.c)
        obtain ⟨v0, st, w8, w9, r1, r2, hS8⟩ := hS7.fmEntry 3 rfl (by unfold maxLen; omega) (ba : Int) x1 n x2
        obtain ⟨c1, c2, c3, -⟩ := hS6.rules 1 (g := B) (t := 131) rfl
        have c5 := (c1 1).trans (show _ = some (.map (some t.mb)) from rfl)
        have c6 := (c1 0).trans (show _ = some (.slice (some ⟨t.g, 0, none⟩) m t.c) from rfl)
        replace r2 : (Instr.entryStore 99 (.map (some t.mb)) (.int .i64 st) (.int .i64 (n : Int))).run Try.prog w8 = .ok () w9 := r2
        obtain ⟨d1, d2, d3, -⟩ := hS8.rules 1 (g := B) (t := 131) rfl
        have d5 := (d1 2).trans (show _ = some (.int .i64 (t.a.last : Int)) from rfl)
        have HS9 := hide (hS8.set_ 1 (g := B) (t := 131) rfl 2 (.int .i64 (aE : Int)))
        clear hS6 hS7 hS8 c1 d1 HD b1 b2 b3 b5 e0 e1 f0 f1
        go_wp2_with fail
        refine bodyPost_ret (v := .tuple #[.int .i64 (ba : Int), .bool true]) (by simp [results, Try.results49, go_sem]) rfl (.inr ⟨i, HO.out, by first | rw [HG.out] | rw [← List.getD_eq_getElem?_getD, HG.out], ⟨t.g, t.c, t.mb, t.N + 1, t.a.take i n⟩, rfl, rfl, ?_⟩)
        have hS9 := HS9.out
        have hF : (t.a.take i n).F = t.a.F.eraseIdx i := by
          show takeF t.a.F i n = _
          unfold takeF
          rw [List.getElem?_eq_getElem HIL.out, HBB.out]
          dsimp only
          rw [if_pos (show bl = n by have := HlE.out; have := HZ.out; omega)]
        unfold frL
        dsimp only
        rw [hF, show (t.a.take i n).last = aE from by show (t.a.F.getD i (0, 0)).1 + n = aE; rw [HG.out, HaE.out], show (t.a.take i n).f = putO t.a.f (ba : Int) n from by show putO t.a.f ((t.a.F.getD i (0, 0)).1 : Int) n = _; rw [HG.out], List.length_eraseIdx, if_pos HIL.out, HM.out]
        exact hS9
      · have q1 : ((lE : Int) == 0) = false := by rw [beq_eq_false_iff_ne]; omega
        have q2 : ¬ (lE : Int) = 0 := by omega
        have HZ := hide hz
        have hS7 := hcut
        obtain ⟨v0, st, w8, w9, r1, r2, hS8⟩ := hS7.fmEntry 3 rfl (by unfold maxLen; omega) (ba : Int) x1 n x2
        have c5 := (b1 1).trans (show _ = some (.map (some t.mb)) from rfl)
        replace r2 : (Instr.entryStore 99 (.map (some t.mb)) (.int .i64 st) (.int .i64 (n : Int))).run Try.prog w8 = .ok () w9 := r2
        obtain ⟨d1, d2, d3, -⟩ := hS8.rules 1 (g := B) (t := 131) rfl
        have d5 := (d1 2).trans (show _ = some (.int .i64 (t.a.last : Int)) from rfl)
        have HS9 := hide (hS8.set_ 1 (g := B) (t := 131) rfl 2 (.int .i64 (aE : Int)))
        clear hS7 hS8 hcut haE hlE HS3 hz d1 b1
        go_wp2_with fail
        refine bodyPost_ret (v := .tuple #[.int .i64 (ba : Int), .bool true]) (by simp [results, Try.results49, go_sem]) rfl (.inr ⟨i, HO.out, by first | rw [HG.out] | rw [← List.getD_eq_getElem?_getD, HG.out], ⟨t.g, t.c, t.mb, t.N + 1, t.a.take i n⟩, rfl, rfl, ?_⟩)
        have hS9 := HS9.out
        have hF : (t.a.take i n).F = t.a.F.set i (aE, lE) := by
          show takeF t.a.F i n = _
          unfold takeF
          rw [List.getElem?_eq_getElem HIL.out, HBB.out]
          dsimp only
          rw [if_neg (show ¬ bl = n by have := HlE.out; have := HZ.out; omega), HaE.out, HlE.out]
        unfold frL
        dsimp only
        rw [hF, show (t.a.take i n).last = aE from by show (t.a.F.getD i (0, 0)).1 + n = aE; rw [HG.out, HaE.out], show (t.a.take i n).f = putO t.a.f (ba : Int) n from by show putO t.a.f ((t.a.F.getD i (0, 0)).1 : Int) n = _; rw [HG.out], List.length_set, HM.out]
        exact hS9
end Go.Proofs.Ytjphckfbbiehdaa

namespace Go.Proofs.Ytjphckfbbiehdaa
open Go.RowKit
def gvL (F : List Bk) (i at_ n j : Nat) : List Bk := if j = 0 then F.insertIdx i (at_, n) else if j = 1 then joinAt (F.insertIdx i (at_, n)) i else giveF F i at_ n
theorem gvL_one (F : List Bk) (i at_ n : Nat) : gvL F i at_ n 1 = joinAt (gvL F i at_ n 0) i := rfl
theorem gvL_zero (F : List Bk) (at_ n : Nat) : gvL F 0 at_ n 2 = gvL F 0 at_ n 1 := rfl
theorem gvL_two (F : List Bk) (k at_ n : Nat) : gvL F (k + 1) at_ n 2 = joinAt (gvL F (k + 1) at_ n 1) k := by
  unfold gvL giveF
  simp
theorem joinAt_out {L : List Bk} {k : Nat} (h : L.length ≤ k + 1) : joinAt L k = L := by
  unfold joinAt
  rw [List.getElem?_eq_none h]
  cases L[k]? <;> rfl
theorem joinAt_in {L : List Bk} {k : Nat} (h : k + 1 < L.length) : joinAt L k = if (L[k]'(by omega)).1 + (L[k]'(by omega)).2 = L[k + 1].1 then (L.set k ((L[k]'(by omega)).1, (L[k]'(by omega)).2 + L[k + 1].2)).eraseIdx (k + 1) else L := by
  unfold joinAt
  rw [List.getElem?_eq_getElem (show k < L.length by omega), List.getElem?_eq_getElem h]
theorem joinAt_le {L : List Bk} {k M : Nat} (h : ∀ b ∈ L, b.1 + b.2 ≤ M) : ∀ b ∈ joinAt L k, b.1 + b.2 ≤ M := by
  rcases Nat.lt_or_ge (k + 1) L.length with h1 | h1
  · rw [joinAt_in h1]
    split
    · rename_i h2
      intro b hb
      have hb := List.mem_of_mem_eraseIdx hb
      rcases List.mem_or_eq_of_mem_set hb with h3 | h3
      · exact h b h3
      · rw [h3]
        have := h _ (List.getElem_mem h1)
        dsimp only
        omega
    · exact h
  · rw [joinAt_out h1]; exact h
theorem joinAt_len {L : List Bk} {k : Nat} : (joinAt L k).length ≤ L.length := by
  rcases Nat.lt_or_ge (k + 1) L.length with h1 | h1
  · rw [joinAt_in h1]
    split
    · rw [List.length_eraseIdx]
      split <;> rw [List.length_set] <;> omega
    · exact Nat.le_refl _
  · rw [joinAt_out h1]; exact Nat.le_refl _
theorem gvL_le {F : List Bk} {i at_ n M j : Nat} (h : ∀ b ∈ F, b.1 + b.2 ≤ M) (hi : i ≤ F.length) (hn : at_ + n ≤ M) : ∀ b ∈ gvL F i at_ n j, b.1 + b.2 ≤ M := by
  have h0 : ∀ b ∈ F.insertIdx i (at_, n), b.1 + b.2 ≤ M := by
    intro b hb
    rcases (List.mem_insertIdx hi).1 hb with h1 | h1
    · rw [h1]; exact hn
    · exact h b h1
  unfold gvL giveF
  split
  · exact h0
  · split
    · exact joinAt_le h0
    · dsimp only
      split
      · exact joinAt_le h0
      · exact joinAt_le (joinAt_le h0)
theorem gvL_len {F : List Bk} {i at_ n j : Nat} : (gvL F i at_ n j).length ≤ F.length + 1 := by
  have h0 : (F.insertIdx i (at_, n)).length ≤ F.length + 1 := by
    rw [List.length_insertIdx]; split <;> omega
  unfold gvL giveF
  split
  · exact h0
  · split
    · exact Nat.le_trans joinAt_len h0
    · dsimp only
      split
      · exact Nat.le_trans joinAt_len h0
      · exact Nat.le_trans (Nat.le_trans joinAt_len joinAt_len) h0
theorem arr2_0 (x y : Int) (w : World) : (Instr.index 239 (.agg #[.int .i64 x, .int .i64 y]) (.int .i64 0)).run Try.prog w = .ok (.int .i64 x) w := by kernel_rfl
theorem arr2_1 (x y : Int) (w : World) : (Instr.index 239 (.agg #[.int .i64 x, .int .i64 y]) (.int .i64 1)).run Try.prog w = .ok (.int .i64 y) w := by kernel_rfl
set_option maxRecDepth 100000 in
set_option maxHeartbeats 16000000 in
theorem frgive_no {F : Nat → Prop} {W0 w : World} {B : Nat} {t : FrT} {x : Item} (h : Sep F W0 w (x :: frL B t)) (z : Int) (hz : wfI z) (hf : t.a.f z = none) :
    Calls Try.prog 50 #[.pointer (some ⟨B, 0, none⟩), .int .i64 z] w fun e w' => e = .returned (.bool false) ∧ Sep F W0 w' (x :: frL B t) := by
  have hlk := fm_look (h.get 3 rfl) z hz
  rw [hf] at hlk
  have hlk2 : (Instr.lookup 99 (.map (some t.mb)) (.int .i64 z) true).run Try.prog w = .ok (.tuple #[.int .i64 0, .bool false]) w := hlk
  obtain ⟨b1, b2, b3, -⟩ := h.rules 1 (g := B) (t := 131) rfl
  have b5 := (b1 1).trans (show _ = some (.map (some t.mb)) from rfl)
  have HS := hide h
  clear h hlk b1 hf
  go_enter Try.func50, Try.ntmps50
  go_wp2_with fail
  refine bodyPost_ret (v := .bool false) (by simp [results, Try.results50, go_sem]) rfl ⟨rfl, HS.out⟩
set_option maxRecDepth 100000 in
set_option maxHeartbeats 32000000 in
theorem frgive_any {F : Nat → Prop} {W0 w : World} {B : Nat} {t : FrT} {x : Item} (h : Sep F W0 w (x :: frL B t)) (a m : Nat) (hf : t.a.f (a : Int) = some m) (ham : a + m ≤ 300) (ok : FOk t.a.F) (hl : t.a.F.length ≤ 300) (hb : ∀ b ∈ t.a.F, b.1 + b.2 ≤ 300) :
    Calls Try.prog 50 #[.pointer (some ⟨B, 0, none⟩), .int .i64 (a : Int)] w fun e w' => e = .returned (.bool true) ∧ ∃ t' : FrT, t'.a = t.a.give a m ∧ t'.N = t.N ∧ Sep F W0 w' (x :: frL B t') := by
  have hmx : Try.prog.follows .mixedOrders = true := by kernel_rfl
  have hz : wfI (a : Int) := wfI_of (by omega) (by omega)
  have hlk := fm_look (h.get 3 rfl) (a : Int) hz
  rw [hf] at hlk
  have hlk2 : (Instr.lookup 99 (.map (some t.mb)) (.int .i64 (a : Int)) true).run Try.prog w = .ok (.tuple #[.int .i64 (m : Int), .bool true]) w := hlk
  obtain ⟨q0, hq0⟩ : ∃ q, t.a.F.length = q := ⟨_, rfl⟩
  have hS1 : Sep F W0 w [x, blkI B 131 #[.slice (some ⟨t.g, 0, none⟩) q0 t.c, .map (some t.mb), .int .i64 (t.a.last : Int)], rowI 231 2 (some ⟨t.g, 0, none⟩) q0 t.c (bkV t.a.F), fmI t.mb t.N t.a.f] := by rw [← hq0]; exact h
  obtain ⟨b1, b2, b3, -⟩ := hS1.rules 1 (g := B) (t := 131) rfl
  have b5 := (b1 0).trans (show _ = some (.slice (some ⟨t.g, 0, none⟩) q0 t.c) from rfl)
  have b6 := (b1 1).trans (show _ = some (.map (some t.mb)) from rfl)
  obtain ⟨i, hi⟩ : ∃ i, idxB t.a.F a = i := ⟨_, rfl⟩
  obtain ⟨A, C, e1, e2, e3, e4⟩ := idxB_split ok a
  rw [hi] at e2
  have hin : i ≤ q0 := by rw [← hq0, e1, List.length_append, e2]; omega
  have HI := hide hi
  have HLO := hide (show ∀ j b, j < i → t.a.F[j]? = some b → b.1 < a from fun j b hj hbj => by
    rw [e1, List.getElem?_append_left (by omega)] at hbj
    exact e3 b (List.mem_of_getElem? hbj))
  have HHI := hide (show ∀ j b, i ≤ j → t.a.F[j]? = some b → a ≤ b.1 from fun j b hj hbj => by
    rw [e1, List.getElem?_append_right (by omega)] at hbj
    exact e4 b (List.mem_of_getElem? hbj))
  have HB := hide hb
  have HS1 := hide hS1
  have HQ := hide hq0
  rw [hq0] at hl
  clear b1 hS1 h hlk e1 e2 e3 e4 ok hi hb hf hq0
  go_enter Try.func50, Try.ntmps50
  go_wp2_with (first
    | (at_delete
       refine wpList_fmDel rfl _ _ rfl HS1.out 3 rfl (a : Int) rfl rfl hz ?_
       intro w2 hS2
       (have HS2 := hide (show Sep F W0 w2 [x, blkI B 131 #[.slice (some ⟨t.g, 0, none⟩) q0 t.c, .map (some t.mb), .int .i64 (t.a.last : Int)], rowI 231 2 (some ⟨t.g, 0, none⟩) q0 t.c (bkV t.a.F), fmI t.mb t.N (delO t.a.f (a : Int))] from hS2))
       obtain ⟨c1, c2, c3, -⟩ := hS2.rules 1 (g := B) (t := 131) rfl
       (have c5 := (c1 0).trans (show _ = some (.slice (some ⟨t.g, 0, none⟩) q0 t.c) from rfl))
       clear c1 hS2 HS1 b2 b3 b5 b6 hlk2))
  refine (frsearch_any w2 _ q0 t.c i a t.a.F (by omega) (HS2.out.rd_ 2 rfl) hin HLO.out HHI.out).mono ?_
  rintro e w3 ⟨⟨fnd, rfl⟩, hb3⟩
  have hS3 := HS2.out.below hb3
  obtain ⟨gv, hgv⟩ : ∃ g, w3.heap.size = g := ⟨_, rfl⟩
  have hS4 := hS3.blkAt 231 #[.int .i64 (a : Int), .int .i64 (m : Int)] hgv
  have hne : gv ≠ t.g := fun e => by
    have := hS3.hi 2 rfl t.g rfl
    omega
  obtain ⟨d1, d2, d3, -⟩ := hS3.rules 1 (g := B) (t := 131) rfl
  have d5 := (d1 0).trans (show _ = some (.slice (some ⟨t.g, 0, none⟩) q0 t.c) from rfl)
  have CI := hide (frinsert_any hS4 2 (gv := gv) (i := i) (b := (a, m)) rfl hin (by omega) hne (hS4.get 4 rfl))
  have HIN := hide hin
  obtain ⟨Z, hZ⟩ : ∃ Z, Z = (i : Int) - 1 := ⟨_, rfl⟩
  have k0 : IntKind.i64.wrap ((i : Int) - 1) = Z := by rw [wrapF64 _ (by omega) (by omega)]; omega
  have HZ := hide hZ
  have d6 := (d1 0)
  clear d1 hS3 hS4 hb3 HS2 c2 c3 c5 HLO HHI hne hZ
  go_wp2_with fail
  refine CI.out.mono ?_
  rintro e w6 ⟨g', c', rfl, hS6⟩
  obtain ⟨d1, d2, d3, -⟩ := hS6.rules 1 (g := B) (t := 131) rfl
  have d5 := (d1 0).trans (show _ = some (.slice (some ⟨t.g, 0, none⟩) q0 t.c) from rfl)
  have hq1 : (gvL t.a.F i a m 0).length = q0 + 1 := by
    show (t.a.F.insertIdx i (a, m)).length = _
    rw [List.length_insertIdx, if_pos (by rw [HQ.out]; exact HIN.out), HQ.out]
  have HS7 := hide (show Sep F W0 (w6.setCell ⟨B, 0, none⟩ (.slice (some ⟨g', 0, none⟩) (q0 + 1) c')) [x, blkI B 131 #[.slice (some ⟨g', 0, none⟩) (gvL t.a.F i a m 0).length c', .map (some t.mb), .int .i64 (t.a.last : Int)], rowI 231 2 (some ⟨g', 0, none⟩) (gvL t.a.F i a m 0).length c' (bkV (gvL t.a.F i a m 0)), fmI t.mb t.N (delO t.a.f (a : Int))] from by
    rw [hq1]
    exact (hS6.set_ 1 (g := B) (t := 131) rfl 0 (.slice (some ⟨g', 0, none⟩) (q0 + 1) c')).sub (List.sublist_append_left [_, _, _, _] [_]))
  clear hS6 d1 CI hq1 hin hgv
  have AR0 := arr2_0
  have AR1 := arr2_1
  go_wp2_with fail
  go_loopw [53] (fun s53 wr => ∃ (j gr cr : Nat), j ≤ 2 ∧ s53 = .int .i64 (j : Int) ∧ Sep F W0 wr [x, blkI B 131 #[.slice (some ⟨gr, 0, none⟩) (gvL t.a.F i a m j).length cr, .map (some t.mb), .int .i64 (t.a.last : Int)], rowI 231 2 (some ⟨gr, 0, none⟩) (gvL t.a.F i a m j).length cr (bkV (gvL t.a.F i a m j)), fmI t.mb t.N (delO t.a.f (a : Int))]) (fun s53 _ => 2 - (intOf s53).toNat)
  case atStart => exact ⟨0, g', c', by omega, rfl, HS7.out⟩
  case round =>
    clear HS7 d2 d3 d5 d6
    obtain ⟨j, gr, cr, hj, rfl, hS⟩ := hrel
    by_cases hlt : j < 2
    · obtain ⟨L, hL⟩ : ∃ L, gvL t.a.F i a m j = L := ⟨_, rfl⟩
      have HLB := hide (show ∀ b ∈ L, b.1 + b.2 ≤ 300 from by rw [← hL]; exact gvL_le HB.out (by rw [HQ.out]; exact HIN.out) ham)
      have hLq : L.length ≤ q0 + 1 := by rw [← hL, ← HQ.out]; exact gvL_len
      rw [hL] at hS
      obtain ⟨q, hq⟩ : ∃ q, L.length = q := ⟨_, rfl⟩
      rw [hq] at hS hLq
      obtain ⟨b1, b2, b3, -⟩ := hS.rules 1 (g := B) (t := 131) rfl
      have b5 := (b1 0).trans (show _ = some (.slice (some ⟨gr, 0, none⟩) q cr) from rfl)
      clear b1
      by_cases hend : j = 1 ∧ i = 0
      · obtain ⟨rfl, rfl⟩ := hend
        obtain rfl : Z = -1 := by have := HZ.out; omega
        have HS := hide hS
        have HN := hide (show gvL t.a.F 0 a m 2 = L from by rw [gvL_zero]; exact hL)
        have HQ2 := hide hq
        clear hS hL hq k0
        go_upto_region 10 with fail
        go_quiet (fail)
        go_wp2_with fail
        go_roundw
        case rel => exact ⟨2, gr, cr, by omega, by go_num, by rw [HN.out, HQ2.out]; exact HS.out.drewN _⟩
        case measure => simp [intOf]
      · obtain ⟨J, hJ⟩ : ∃ J, J = j + 1 := ⟨_, rfl⟩
        obtain ⟨k, hjk, hnx⟩ : ∃ k : Nat, ((j = 0 ∧ i = k) ∨ (j = 1 ∧ Z = (k : Int))) ∧ gvL t.a.F i a m J = joinAt L k := by
          rcases (show j = 0 ∨ j = 1 by omega) with rfl | rfl
          · exact ⟨i, .inl ⟨rfl, rfl⟩, by rw [hJ, ← hL]; exact gvL_one ..⟩
          · obtain ⟨k, rfl⟩ : ∃ k, i = k + 1 := ⟨i - 1, by omega⟩
            exact ⟨k, .inr ⟨rfl, by have := HZ.out; omega⟩, by rw [hJ, ← hL]; exact gvL_two ..⟩
        have hkb : k ≤ 301 := by
          have := HIN.out
          have := HZ.out
          omega
        obtain ⟨K1, hK1⟩ : ∃ x, x = k + 1 := ⟨_, rfl⟩
        have v1 : IntKind.i64.wrap ((k : Int) + 1) = (K1 : Int) := by rw [wrapF64 _ (by omega) (by omega)]; omega
        have v3 : IntKind.i64.wrap ((k : Int) + 2) = (K1 : Int) + 1 := by rw [wrapF64 _ (by omega) (by omega)]; omega
        have t0 : decide ((0 : Int) ≤ (k : Int)) = true := by simp
        have t0' : (0 : Int) ≤ (k : Int) := by omega
        have HNX := hide hnx
        have HJ := hide hJ
        have HQ2 := hide hq
        have HLQ := hide hLq
        clear hL hq hnx hend
        by_cases hk : K1 < q
        · have hkl : k + 1 < L.length := by rw [HQ2.out]; omega
          obtain ⟨g2, hg2, _, hl2, e0, e1, f0, f1⟩ := bk_at (hS.get 2 rfl) (show k < q by omega)
          obtain rfl : gr = g2 := by injection hg2 with hg2; injection hg2
          obtain ⟨g3, hg3, _, hl3, e2, e3, -, -⟩ := bk_at (hS.get 2 rfl) hk
          obtain rfl : gr = g3 := by injection hg3 with hg3; injection hg3
          have HJI := hide (joinAt_in hkl)
          have hb0 := HLB.out L[k] (List.getElem_mem hl2)
          have hb1 := HLB.out L[K1] (List.getElem_mem hl3)
          have HBS := hide (fun (N : Nat) => bkV_set2 L k N hl2)
          have hK1' : L[k + 1] = L[K1] := by simp only [hK1]
          rw [hK1'] at HJI
          obtain ⟨⟨ya, yl⟩, hy⟩ : ∃ y, L[k] = y := ⟨_, rfl⟩
          obtain ⟨⟨za, zl⟩, hz2⟩ : ∃ y, L[K1] = y := ⟨_, rfl⟩
          rw [hy] at e0 e1 hb0 HBS
          rw [hz2] at e2 e3 hb1
          simp only [hy, hz2] at HJI
          dsimp only at e0 e1 e2 e3 hb0 hb1 HBS
          obtain ⟨ys, hys⟩ : ∃ y, y = ya + yl := ⟨_, rfl⟩
          obtain ⟨ls, hls⟩ : ∃ y, y = yl + zl := ⟨_, rfl⟩
          have v4 : IntKind.i64.wrap ((ya : Int) + (yl : Int)) = (ys : Int) := by rw [wrapF64 _ (by omega) (by omega)]; omega
          have v5 : IntKind.i64.wrap ((yl : Int) + (zl : Int)) = (ls : Int) := by rw [wrapF64 _ (by omega) (by omega)]; omega
          have t1 : decide ((K1 : Int) < (q : Int)) = true := by simp; omega
          have t1' : (K1 : Int) < (q : Int) := by omega
          have t2 : (k : Int) < (q : Int) := by omega
          have t3 : k < q := by omega
          have HS := hide hS
          clear hb0 hb1 hy hz2 hK1' hS
          by_cases hE : ys = za
          · have t4 : ((ys : Int) == (za : Int)) = true := by simp [hE]
            have t5 : (ys : Int) = (za : Int) := by omega
            have HJ2 := hide (show joinAt L k = (L.set k (ya, ls)).eraseIdx K1 from by
              rw [HJI.out, ← hys, ← hls, if_pos hE, hK1])
            have HBS2 := hide (HBS.out ls)
            have HK := hide hk
            have HL2 := hide (show (L.set k (ya, ls)).length = q by rw [List.length_set]; exact HQ2.out)
            obtain ⟨L2, hL2⟩ : ∃ L2, L.set k (ya, ls) = L2 := ⟨_, rfl⟩
            rw [hL2] at HJ2 HBS2 HL2
            clear hL2
            rcases hjk with ⟨rfl, rfl⟩ | ⟨rfl, rfl⟩
            all_goals
              clear hys hls hK1 HJI HBS hkl hl2 hl3 hk
              go_upto_region 10 with fail
              go_quiet (fail)
              go_upto_region 11 with fail
              go_cut [] (fun wx => Sep F W0 wx [x, blkI B 131 #[.slice (some ⟨gr, 0, none⟩) q cr, .map (some t.mb), .int .i64 (t.a.last : Int)], rowI 231 2 (some ⟨gr, 0, none⟩) q cr (bkV L2), fmI t.mb t.N (delO t.a.f (a : Int))])
              case first =>
                go_region
                all_goals go_wp2_with fail
                all_goals go_meet
                all_goals
                  rw [HBS2.out]
                  exact (HS.out.drewN _).store 2 rfl _ _
              case rest =>
                clear b2 b3 b5 e0 e1 e2 e3 f0 f1
                obtain ⟨b1, b2, b3, -⟩ := hcut.rules 1 (g := B) (t := 131) rfl
                have b5 := (b1 0).trans (show _ = some (.slice (some ⟨gr, 0, none⟩) q cr) from rfl)
                have HD := hide (frdelete_any hcut 2 rfl HK.out (by have := HLQ.out; omega))
                clear b1 b2 b3 hcut
                go_wp2_with fail
                refine HD.out.mono ?_
                rintro e w8 ⟨rfl, hS8⟩
                obtain ⟨b1, b2, b3, -⟩ := hS8.rules 1 (g := B) (t := 131) rfl
                have b5 := (b1 0).trans (show _ = some (.slice (some ⟨gr, 0, none⟩) q cr) from rfl)
                have HS9 := hide (hS8.set_ 1 (g := B) (t := 131) rfl 0 (.slice (some ⟨gr, 0, none⟩) (q - 1) cr))
                clear b1 hS8 HD
                go_wp2_with fail
                go_roundw
                case rel =>
                  refine ⟨J, gr, cr, by rw [HJ.out]; omega, by rw [HJ.out]; first | rfl | go_num, ?_⟩
                  have hlen : (L2.eraseIdx K1).length = q - 1 := by
                    rw [List.length_eraseIdx, HL2.out, if_pos HK.out]
                  rw [HNX.out, HJ2.out, hlen]
                  exact HS9.out
                case measure => simp [intOf]
          · have t4 : ((ys : Int) == (za : Int)) = false := by rw [beq_eq_false_iff_ne]; omega
            have t5 : ¬ (ys : Int) = (za : Int) := by omega
            have HJ2 := hide (show joinAt L k = L from by
              rw [HJI.out, ← hys, if_neg hE])
            rcases hjk with ⟨rfl, rfl⟩ | ⟨rfl, rfl⟩
            all_goals
              clear hys hls hK1 HJI HBS hkl hl2 hl3 hk
              go_upto_region 10 with fail
              go_quiet (fail)
              go_wp2_with fail
              go_roundw
              case rel =>
                refine ⟨J, gr, cr, by rw [HJ.out]; omega, by rw [HJ.out]; first | rfl | go_num, ?_⟩
                rw [HNX.out, HJ2.out, HQ2.out]
                exact HS.out.drewN _
              case measure => simp [intOf]
        · have t1 : decide ((K1 : Int) < (q : Int)) = false := by simp; omega
          have t1' : ¬ (K1 : Int) < (q : Int) := by omega
          have HJ2 := hide (show joinAt L k = L from joinAt_out (by rw [HQ2.out]; omega))
          have HS := hide hS
          clear hS
          rcases hjk with ⟨rfl, rfl⟩ | ⟨rfl, rfl⟩
          all_goals
            clear hK1 hk
            go_upto_region 10 with fail
            go_quiet (fail)
            go_wp2_with fail
            go_roundw
            case rel =>
              refine ⟨J, gr, cr, by rw [HJ.out]; omega, by rw [HJ.out]; first | rfl | go_num, ?_⟩
              rw [HNX.out, HJ2.out, HQ2.out]
              exact HS.out.drewN _
            case measure => simp [intOf]
    · obtain rfl : j = 2 := by omega
      have HS := hide hS
      clear hS
      go_wp2_with fail
      refine bodyPost_ret (v := .bool true) (by simp [results, Try.results50, go_sem]) rfl ⟨rfl, ⟨gr, cr, t.mb, t.N, t.a.give a m⟩, rfl, rfl, ?_⟩
      have h9 := HS.out
      have hF : (t.a.give a m).F = gvL t.a.F i a m 2 := by
        show giveF t.a.F (idxB t.a.F a) a m = _
        rw [HI.out]; rfl
      unfold frL
      dsimp only
      rw [hF]
      exact h9
end Go.Proofs.Ytjphckfbbiehdaa
