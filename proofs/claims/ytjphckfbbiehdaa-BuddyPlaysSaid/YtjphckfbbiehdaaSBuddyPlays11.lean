/- A piece is given back. The reference's yard: words are taken, and given back. -/
import Derived.Test.YtjphckfbbiehdaaSBuddyPlays10
import Derived.Test.YtjphckfbbiehdaaSBuddyPlays5
set_option linter.unusedSimpArgs false
set_option linter.unusedVariables false
namespace Go.Proofs.Ytjphckfbbiehdaa
open Go.RowKit
theorem upS_stop {L n k q : Nat} {S : Nat → Nat → Bool} (h : n = 0 ∨ ¬ (k < L ∧ S k (tw q) = true)) : upS L n k q S = fun j x => if j = k ∧ x = q then true else S j x := by
  cases n with
  | zero => rfl
  | succ n =>
    unfold upS
    rw [if_neg (h.resolve_left (by omega))]
theorem upS_go {L n k q : Nat} {S : Nat → Nat → Bool} (h1 : k < L) (h2 : S k (tw q) = true) : upS L (n + 1) k q S = upS L n (k + 1) (q / 2) (fun j x => if j = k ∧ x = tw q then false else S j x) := by
  rw [upS.eq_2, if_pos ⟨h1, h2⟩]
theorem tw_le {L k q : Nat} (hk : k ≤ L) (hq : q < 2 ^ (L - k)) : tw q * 2 ^ k ≤ 2 ^ L := by
  have h1 := pow_num hk hq
  have h2 : tw q ≤ q + 1 := by unfold tw; split <;> omega
  have h3 := Nat.mul_le_mul_right (2 ^ k) h2
  rw [Nat.succ_mul] at h3
  exact Nat.le_trans h3 h1
set_option maxRecDepth 100000 in
set_option maxHeartbeats 16000000 in
theorem bdgive_no {F : Nat → Prop} {W0 w : World} {B L : Nat} {t : BdY} {x : Item} (h : Sep F W0 w (x :: bdL B L t)) (z : Int) (hz : wfI z) (hf : t.tf z = none) :
    Calls Try.prog 124 #[.pointer (some ⟨B, 0, none⟩), .int .i64 z] w fun e w' => e = .returned (.bool false) ∧ Sep F W0 w' (x :: bdL B L t) := by
  have hlk := fm_look (h.get 2 rfl) z hz
  rw [hf] at hlk
  have hlk2 : (Instr.lookup 99 (.map (some t.tb)) (.int .i64 z) true).run Try.prog w = .ok (.tuple #[.int .i64 0, .bool false]) w := hlk
  obtain ⟨b1, b2, b3, -⟩ := h.rules 1 (g := B) (t := 243) rfl
  have b5 := (b1 9).trans (show _ = some (.map (some t.tb)) from rfl)
  have HS := hide h
  clear h hlk b1 hf
  go_enter Try.func124, Try.ntmps124
  go_wp2_with fail
  refine bodyPost_ret (v := .bool false) (by simp [results, Try.results124, go_sem]) rfl ⟨rfl, HS.out⟩
set_option maxRecDepth 100000 in
set_option maxHeartbeats 32000000 in
theorem bdgive_any {F : Nat → Prop} {W0 w : World} {B L : Nat} {t : BdY} {x : Item} (h : Sep F W0 w (x :: bdL B L t)) (hL : L ≤ 7) {y : FyA} (ok : BdOk L y) (hfr : t.fr = frO y.tk L) (z : Int) (k i q : Nat) (hz : t.tf z = some k) (hzq : z = ((q * 2 ^ k : Nat) : Int)) (hk : k ≤ L) (hq : q < 2 ^ (L - k)) (ok2 : BdOk L (y.give i)) (hs : SetP (y.give i).tk y.tk k q true) (haf : AF (y.give i).tk k q) (M : Nat) (hM : M ≤ 10000) (hnn : ∀ j, t.nn j ≤ M) :
    Calls Try.prog 124 #[.pointer (some ⟨B, 0, none⟩), .int .i64 z] w fun e w' => e = .returned (.bool true) ∧ ∃ t', Sep F W0 w' (x :: bdL B L t') ∧ t'.fr = frO (y.give i).tk L ∧ t'.tf = delO t.tf z ∧ (∀ j, t'.nn j ≤ M + 1) ∧ t'.tn ≤ t.tn := by
  have hp8 := pow_le8 (show L ≤ 8 by omega)
  obtain ⟨a0, ha0⟩ : ∃ a, q * 2 ^ k = a := ⟨_, rfl⟩
  have ha0b : a0 ≤ 256 := by
    have h1 := pow_num hk hq
    rw [← ha0]; exact Nat.le_trans (Nat.le_trans (Nat.le_add_right _ _) h1) hp8
  rw [ha0] at hzq
  subst hzq
  have hwz : wfI (a0 : Int) := wfN (by omega)
  have hlk := fm_look (h.get 2 rfl) (a0 : Int) hwz
  rw [hz] at hlk
  have hlk2 : (Instr.lookup 99 (.map (some t.tb)) (.int .i64 (a0 : Int)) true).run Try.prog w = .ok (.tuple #[.int .i64 (k : Int), .bool true]) w := hlk
  obtain ⟨b1, b2, b3, -⟩ := h.rules 1 (g := B) (t := 243) rfl
  have b5 := (b1 9).trans (show _ = some (.map (some t.tb)) from rfl)
  have HUP := hide (show mapO (upS L (L - k) k q (mxB y.tk L)) = frO (y.give i).tk L from mapO_congr fun j x => (upS_ok (L - k) k q (mxB y.tk L) y.tk (y.give i).tk (by omega) (fun j x => mxB_iff) hs haf j x).trans mxB_iff.symm)
  have HA0 := hide ha0
  have HS := hide h
  clear h hlk b1 hs haf ok2 ha0 hz
  go_enter Try.func124, Try.ntmps124
  go_wp2_with (first
    | (at_delete
       refine wpList_fmDel rfl _ _ rfl HS.out 2 rfl (a0 : Int) rfl rfl hwz ?_
       intro w2 hS2
       (have HS2 := hide (show Sep F W0 w2 (x :: bdL B L { t with tf := delO t.tf (a0 : Int) }) from hS2))
       clear hS2 HS b2 b3 b5 hlk2))
  go_frame
  go_loopw [1, 5] (fun s1 s5 wr => ∃ (kk qq a : Nat) (S : Nat → Nat → Bool) (t2 : BdY), k ≤ kk ∧ kk ≤ L ∧ qq < 2 ^ (L - kk) ∧ s5 = .int .i64 (kk : Int) ∧ s1 = .int .i64 (a : Int) ∧ Hid (qq * 2 ^ kk = a) ∧ Hid (mapO (upS L (L - kk) kk qq S) = frO (y.give i).tk L) ∧ Hid (t2.mb = t.mb ∧ t2.tb = t.tb ∧ t2.tn = t.tn ∧ t2.tf = delO t.tf (a0 : Int) ∧ t2.fr = mapO S ∧ ∀ r, t2.nn r ≤ M) ∧ Sep F W0 wr (x :: bdL B L t2)) (fun _ s5 _ => 9 - (intOf s5).toNat)
  case atStart => exact ⟨k, q, a0, mxB y.tk L, { t with tf := delO t.tf (a0 : Int) }, by omega, hk, hq, rfl, rfl, HA0, HUP, hide ⟨rfl, rfl, rfl, rfl, hfr, hnn⟩, HS2.out⟩
  case round =>
    clear HS2
    obtain ⟨kk, qq, a, S, t2, hkk, hkL, hqq, rfl, rfl, HA, HU, HT, hS⟩ := hrel
    obtain ⟨d1, d2, d3, -⟩ := hS.rules 1 (g := B) (t := 243) rfl
    have d5 := (d1 0).trans (show _ = some (.int .i64 (L : Int)) from rfl)
    have d6 := (d1 (1 + kk)).trans (bdC_at L t2 (show kk < 8 by omega))
    have j1 : (kk : Int) < 8 := by omega
    have ha1 : a ≤ 256 := by
      have h1 := pow_num hkL hqq
      rw [← HA.out]; exact Nat.le_trans (Nat.le_trans (Nat.le_add_right _ _) h1) hp8
    by_cases hlt : kk < L
    · have t1 : decide ((kk : Int) < (L : Int)) = true := by simp; omega
      have v1 := wrap_pow (show kk ≤ 8 by omega)
      have hp1 := pow_le8 (show kk ≤ 8 by omega)
      have htw := Nat.le_trans (tw_le hkL hqq) hp8
      have hx := xor_tw qq kk
      have hn := and_tw qq kk
      rw [HA.out] at hx hn
      have hq2 : qq / 2 < 2 ^ (L - (kk + 1)) := by
        rw [show L - kk = L - (kk + 1) + 1 by omega, Nat.pow_succ] at hqq
        omega
      have hcb := Nat.le_trans (Nat.le_trans (Nat.le_add_right _ _) (pow_num (show kk + 1 ≤ L by omega) hq2)) hp8
      obtain ⟨b, hb⟩ : ∃ b, tw qq * 2 ^ kk = b := ⟨_, rfl⟩
      obtain ⟨c, hc⟩ : ∃ c, qq / 2 * 2 ^ (kk + 1) = c := ⟨_, rfl⟩
      rw [hb] at hx hn htw
      rw [hc] at hn hcb
      obtain ⟨p1, hp1'⟩ : ∃ p, 2 ^ kk = p := ⟨_, rfl⟩
      rw [hp1'] at v1 hp1 hx
      have v3 := bits_xor (Nat.le_trans ha1 (by decide)) (Nat.le_trans hp1 (by decide)) hx (Nat.le_trans htw (by decide))
      have v4 := bits_and (Nat.le_trans ha1 (by decide)) (Nat.le_trans htw (by decide)) hn (Nat.le_trans hcb (by decide))
      have hlk := fm_look0 (hS.get (3 + kk) (bdL_at B L t2 x (show kk < 8 by omega))) (b : Int) (wfN (Nat.le_trans htw (by decide)))
      rw [HT.out.2.2.2.2.1, ← hb, mapO_at, hb] at hlk
      have hst : L - kk = L - (kk + 1) + 1 := by omega
      by_cases hS1 : S kk (tw qq) = true
      · rw [if_pos hS1] at hlk
        have hlk2 : (Instr.lookup 99 (.map (some (t2.mb kk))) (.int .i64 (b : Int)) false).run Try.prog wr = .ok (.int .i64 1) wr := hlk
        have HU2 := hide (show mapO (upS L (L - (kk + 1)) (kk + 1) (qq / 2) (fun j x => if j = kk ∧ x = tw qq then false else S j x)) = frO (y.give i).tk L from by
          rw [← upS_go hlt hS1, ← hst]; exact HU.out)
        have HT3 := hide (bdL_at B L t2 x (show kk < 8 by omega))
        have HT4 := hide (bdL_set B L t2 x (show kk < 8 by omega) (t2.nn kk) (delO (t2.fr kk) (b : Int)))
        have HB := hide hb
        have HC := hide hc
        have HTW := hide htw
        have HS8 := hide hS
        clear d1 hS hx hn hlk hS1 hst hc hp1' hcb ha1 HU
        go_wp2_with (first
          | (at_delete
             refine wpList_fmDel rfl _ _ rfl HS8.out (3 + kk) HT3.out (b : Int) rfl rfl (wfN (Nat.le_trans HTW.out (by decide))) ?_
             intro w7 hS9
             (rw [HT4.out] at hS9)
             (have HS9 := hide hS9)
             clear hS9 HS8))
        go_roundw
        case rel => exact ⟨kk + 1, qq / 2, c, _, t2.up kk (t2.nn kk) (delO (t2.fr kk) (b : Int)), by omega, by omega, hq2, by go_num, rfl, HC, HU2, hide ⟨HT.out.1, HT.out.2.1, HT.out.2.2.1, HT.out.2.2.2.1, by
          funext r
          rw [mapO_del]
          show (if r = kk then delO (t2.fr kk) (b : Int) else t2.fr r) = _
          rw [HT.out.2.2.2.2.1, HB.out]
          by_cases hr : r = kk
          · rw [if_pos hr, if_pos hr, hr]
          · rw [if_neg hr, if_neg hr], fun r => by
          show (if r = kk then t2.nn kk else t2.nn r) ≤ _
          have h1 := HT.out.2.2.2.2.2 r
          have h2 := HT.out.2.2.2.2.2 kk
          split <;> omega⟩, HS9.out⟩
        case measure => simp [intOf]; omega
      · rw [if_neg hS1] at hlk
        have hlk2 : (Instr.lookup 99 (.map (some (t2.mb kk))) (.int .i64 (b : Int)) false).run Try.prog wr = .ok (.int .i64 0) wr := hlk
        have HF := hide (show mapO (fun j x => if j = kk ∧ x = qq then true else S j x) = frO (y.give i).tk L from by
          rw [← upS_stop (L := L) (n := L - kk) (.inr (fun h => hS1 h.2))]; exact HU.out)
        clear hlk hS1 hst hx hn hcb hb hc hp1' htw
        have HT3 := hide (bdL_at B L t2 x (show kk < 8 by omega))
        have HT4 := hide (bdL_set B L t2 x (show kk < 8 by omega) (t2.nn kk + 1) (putO (t2.fr kk) (a : Int) 1))
        have HNB := hide (show t2.nn kk + 1 < maxLen from Nat.lt_of_le_of_lt (Nat.succ_le_succ (Nat.le_trans (HT.out.2.2.2.2.2 kk) hM)) (show 10001 < maxLen by decide))
        have HS8 := hide hS
        have HA1 := hide ha1
        clear d1 hS
        go_wp2_with (first
          | (at_mapUpdate
             refine wpList_fmPut rfl (.tmp 60) (.tmp 61) (.const (.int .i64 1)) rfl HS8.out (3 + kk) HT3.out HNB.out (a : Int) 1 rfl rfl rfl (wfN (Nat.le_trans HA1.out (by decide))) (wfN (by decide)) ?_
             intro w7 hS9
             (rw [HT4.out] at hS9)
             (have HS9 := hide hS9)
             clear hS9 HS8))
        refine bodyPost_ret (v := .bool true) (by simp [results, Try.results124, go_sem]) rfl ⟨rfl, _, HS9.out, ?_, ?_, ?_, ?_⟩
        · rw [← HF.out]
          funext r
          show (if r = kk then putO (t2.fr kk) (a : Int) 1 else t2.fr r) = _
          rw [mapO_put, HT.out.2.2.2.2.1, HA.out]
          by_cases hr : r = kk
          · rw [if_pos hr, if_pos hr, hr]
          · rw [if_neg hr, if_neg hr]
        · show t2.tf = _
          rw [HT.out.2.2.2.1]
        · intro r
          show (if r = kk then t2.nn kk + 1 else t2.nn r) ≤ _
          have h1 := HT.out.2.2.2.2.2 r
          have h2 := HT.out.2.2.2.2.2 kk
          split <;> omega
        · show t2.tn ≤ _
          rw [HT.out.2.2.1]; omega
    · obtain rfl : kk = L := by omega
      have t1 : decide ((kk : Int) < (kk : Int)) = false := by simp
      have HF := hide (show mapO (fun j x => if j = kk ∧ x = qq then true else S j x) = frO (y.give i).tk kk from by
        rw [← upS_stop (L := kk) (n := kk - kk) (.inl (by omega))]; exact HU.out)
      have HT3 := hide (bdL_at B kk t2 x (show kk < 8 by omega))
      have HT4 := hide (bdL_set B kk t2 x (show kk < 8 by omega) (t2.nn kk + 1) (putO (t2.fr kk) (a : Int) 1))
      have HNB := hide (show t2.nn kk + 1 < maxLen from Nat.lt_of_le_of_lt (Nat.succ_le_succ (Nat.le_trans (HT.out.2.2.2.2.2 kk) hM)) (show 10001 < maxLen by decide))
      have HS8 := hide hS
      have HA1 := hide ha1
      clear d1 hS
      go_wp2_with (first
        | (at_mapUpdate
           refine wpList_fmPut rfl (.tmp 60) (.tmp 61) (.const (.int .i64 1)) rfl HS8.out (3 + kk) HT3.out HNB.out (a : Int) 1 rfl rfl rfl (wfN (Nat.le_trans HA1.out (by decide))) (wfN (by decide)) ?_
           intro w7 hS9
           (rw [HT4.out] at hS9)
           (have HS9 := hide hS9)
           clear hS9 HS8))
      refine bodyPost_ret (v := .bool true) (by simp [results, Try.results124, go_sem]) rfl ⟨rfl, _, HS9.out, ?_, ?_, ?_, ?_⟩
      · rw [← HF.out]
        funext r
        show (if r = kk then putO (t2.fr kk) (a : Int) 1 else t2.fr r) = _
        rw [mapO_put, HT.out.2.2.2.2.1, HA.out]
        by_cases hr : r = kk
        · rw [if_pos hr, if_pos hr, hr]
        · rw [if_neg hr, if_neg hr]
      · show t2.tf = _
        rw [HT.out.2.2.2.1]
      · intro r
        show (if r = kk then t2.nn kk + 1 else t2.nn r) ≤ _
        have h1 := HT.out.2.2.2.2.2 r
        have h2 := HT.out.2.2.2.2.2 kk
        split <;> omega
      · show t2.tn ≤ _
        rw [HT.out.2.2.1]; omega
end Go.Proofs.Ytjphckfbbiehdaa

namespace Go.Proofs.Ytjphckfbbiehdaa
open Go.RowKit
theorem pl1_app (l : List (Int × Nat)) (e : Int × Nat) : ints (pl1 (l ++ [e])) = ints (pl1 l) ++ [.int .i64 e.1] := by simp [pl1, ints]
theorem pl2_app (l : List (Int × Nat)) (e : Int × Nat) : ints (pl2 (l ++ [e])) = ints (pl2 l) ++ [.int .i64 (e.2 : Int)] := by simp [pl2, ints]
def FyT.tak (t : FyT) (at_ n : Nat) (A1 A2 : Option Addr) (c1 c2 : Nat) : FyT := { t with tk := setTk t.tk at_ n true, pl := t.pl ++ [((at_ : Int), n)], Aa := A1, ca := c1, Al := A2, cl := c2, last := at_ + n }
set_option maxRecDepth 100000 in
set_option maxHeartbeats 4000000 in
theorem fytake_any {F : Nat → Prop} {W0 w : World} {B : Nat} {t : FyT} {x : Item} (h : Sep F W0 w (x :: fyR B t)) {at_ n : Nat} (hfit : at_ + n ≤ t.tk.length) (hn : t.tk.length ≤ 300) (hp : t.pl.length ≤ 1000) :
    Calls Try.prog 54 #[.pointer (some ⟨B, 0, none⟩), .int .i64 (at_ : Int), .int .i64 (n : Int)] w fun e w' => (∃ u, e = .returned u) ∧ ∃ t' : FyT, t'.y = t.y.take (at_, 0) n ∧ Sep F W0 w' (x :: fyR B t') := by
  have CS := hide (fyset_any h hfit hn true)
  obtain ⟨l, hl⟩ : ∃ l, t.pl.length = l := ⟨_, rfl⟩
  have HL := hide hl
  rw [hl] at hp
  have w1 : IntKind.i64.wrap ((at_ : Int) + (n : Int)) = ((at_ + n : Nat) : Int) := by rw [wrapF64 _ (by omega) (by omega)]; omega
  clear h hfit hl
  go_enter Try.func54, Try.ntmps54
  go_wp2_with fail
  refine CS.out.mono ?_
  rintro e w1 ⟨⟨u, rfl⟩, hS⟩
  obtain ⟨-, y1, y2, y3, y4, y5⟩ := fy_cells (pre := [x]) hS
  rw [show (t.set at_ n true).pl.length = l from HL.out] at y1 y2
  have HS := hide (show Sep F W0 w1 [x, blkI B 135 (fyC (t.set at_ n true)), rowI 4 1 t.Ak (t.set at_ n true).tk.length t.ck (bools (t.set at_ n true).tk), rowI 3 1 t.Aa l t.ca (ints (pl1 t.pl)), rowI 3 1 t.Al l t.cl (ints (pl2 t.pl))] from by rw [← HL.out]; exact hS)
  clear hS CS
  go_wp2_with (first
    | (at_builtin
       refine wpList_app1 (cs := #[.int .i64 (at_ : Int)]) rfl (.tmp 14) (.tmp 16) 35 rfl (F := F) (W := W0) sInt (items := [_, _, _, _, _]) HS.out 3 (n := l) rfl rfl rfl (by simp) rfl rfl (by omega) ?_
       intro A1 c1 w6 hS6 hC6
       obtain ⟨u1, u2, u3, -⟩ := hS6.rules 1 (g := B) (t := 135) rfl
       (have u5 := (u1 1).trans (show _ = some (.slice t.Aa t.pl.length t.ca) from rfl))
       (have HS6 := hide (hS6.set_ 1 (g := B) (t := 135) rfl 1 (.slice A1 (l + 1) c1)))
       (have u6 := (u1 2).trans (show _ = some (.slice t.Al t.pl.length t.cl) from rfl))
       (rw [HL.out] at u6)
       clear hS6 hC6 u1)
    | (at_builtin
       refine wpList_app1 (cs := #[.int .i64 (n : Int)]) rfl (.tmp 24) (.tmp 26) 35 rfl (F := F) (W := W0) sInt (items := [_, _, _, _, _]) HS6.out 4 (n := l) rfl rfl rfl (by simp) rfl rfl (by omega) ?_
       intro A2 c2 w7 hS7 hC7
       obtain ⟨v1, v2, v3, -⟩ := hS7.rules 1 (g := B) (t := 135) rfl
       (have v5 := (v1 2).trans (show _ = some (.slice t.Al t.pl.length t.cl) from rfl))
       (have v6 := (v1 3).trans (show _ = some (.int .i64 (t.last : Int)) from rfl))
       (have HS7 := hide ((hS7.set_ 1 (g := B) (t := 135) rfl 2 (.slice A2 (l + 1) c2)).set_ 1 (g := B) (t := 135) rfl 3 (.int .i64 ((at_ + n : Nat) : Int))))
       clear hS7 hC7 v1))
  go_end0
  refine ⟨⟨_, rfl⟩, t.tak at_ n A1 A2 c1 c2, rfl, ?_⟩
  unfold fyR fyC FyT.tak
  dsimp only
  rw [List.length_append, List.length_singleton, HL.out, pl1_app, pl2_app]
  exact HS7.out
theorem find_at {pl : List (Int × Nat)} {x : Int} {k : Nat} (hk : k < pl.length) (h1 : pl[k].1 = x) (h2 : ∀ j e, j < k → pl[j]? = some e → e.1 ≠ x) : pl.findIdx? (fun e => e.1 == x) = some k := by
  rw [List.findIdx?_eq_some_iff_getElem]
  exact ⟨hk, by simpa using h1, fun j hj => by simpa using h2 j pl[j] hj (List.getElem?_eq_getElem (by omega))⟩
theorem find_not {pl : List (Int × Nat)} {x : Int} (h2 : ∀ j e, j < pl.length → pl[j]? = some e → e.1 ≠ x) : pl.findIdx? (fun e => e.1 == x) = none := by
  rw [List.findIdx?_eq_none_iff]
  intro e he
  obtain ⟨j, hj, rfl⟩ := List.getElem_of_mem he
  simpa using h2 j _ hj (List.getElem?_eq_getElem hj)
def FyT.giv (t : FyT) (k at_ n : Nat) : FyT := { t with tk := setTk t.tk at_ n false, pl := t.pl.set k (-1, n) }
theorem pl1_set (l : List (Int × Nat)) (k : Nat) (e : Int × Nat) : ints (pl1 (l.set k e)) = (ints (pl1 l)).set k (.int .i64 e.1) := by unfold ints pl1; rw [List.map_set, List.map_set]
theorem pl2_set (l : List (Int × Nat)) (k : Nat) (hk : k < l.length) (x : Int) : ints (pl2 (l.set k (x, l[k].2))) = ints (pl2 l) := by
  unfold ints pl2
  rw [List.map_set, List.map_set]
  apply List.ext_getElem?
  intro i
  rw [List.getElem?_set]
  split
  · rename_i e
    subst e
    rw [if_pos (by rw [List.length_map, List.length_map]; exact hk), List.getElem?_map, List.getElem?_map, List.getElem?_eq_getElem hk]
    rfl
  · rfl
def FyA.giveO (y : FyA) (x : Int) : FyA := match y.find x with | some i => y.give i | none => y
set_option maxRecDepth 100000 in
set_option maxHeartbeats 4000000 in
theorem fygive_any {F : Nat → Prop} {W0 w : World} {B : Nat} {t : FyT} {x : Item} (h : Sep F W0 w (x :: fyR B t)) {at_ : Nat} (hfit : ∀ i, t.y.find (at_ : Int) = some i → at_ + (t.pl.getD i (0, 0)).2 ≤ t.tk.length) (hn : t.tk.length ≤ 300) (hp : t.pl.length ≤ 1000) :
    Calls Try.prog 55 #[.pointer (some ⟨B, 0, none⟩), .int .i64 (at_ : Int)] w fun e w' => e = .returned (.bool (t.y.find (at_ : Int)).isSome) ∧ ∃ t' : FyT, t'.y = t.y.giveO (at_ : Int) ∧ Sep F W0 w' (x :: fyR B t') := by
  obtain ⟨l, hl⟩ : ∃ l, t.pl.length = l := ⟨_, rfl⟩
  have HL := hide hl
  rw [hl] at hp
  have HS0 := hide h
  have HFIT := hide hfit
  clear h hl hfit
  go_enter Try.func55, Try.ntmps55
  go_wp2_with fail
  go_loopw [5] (fun i wr => ∃ (k : Nat), k ≤ l ∧ i = .int .i64 (k : Int) ∧ Hid (∀ j e, j < k → t.pl[j]? = some e → e.1 ≠ (at_ : Int)) ∧ Sep F W0 wr (x :: fyR B t)) (fun i _ => l - (intOf i).toNat)
  case atStart => exact ⟨0, by omega, rfl, fun j e hj => by omega, HS0.out⟩
  case round =>
    clear HS0
    obtain ⟨k, hk, rfl, HK, hS⟩ := hrel
    obtain ⟨-, y1, y2, -, y4, y5⟩ := fy_cells (pre := [x]) hS
    rw [HL.out] at y1 y2
    by_cases hlt : k < l
    · have hkl : k < t.pl.length := by rw [HL.out]; exact hlt
      obtain ⟨ga, hga, hk1, z1, z2, z3⟩ := fint_at (hS.get 3 rfl) (z := k) hkl
      obtain ⟨gl, hgl, hk2, v1, v2, v3⟩ := fint_at (hS.get 4 rfl) (z := k) hkl
      have e1 : (pl1 t.pl)[k] = t.pl[k].1 := List.getElem_map ..
      have e2 : (pl2 t.pl)[k] = (t.pl[k].2 : Int) := List.getElem_map ..
      rw [e1] at z1
      rw [e2] at v1
      obtain ⟨⟨pa, pn⟩, hpe⟩ : ∃ e, t.pl[k] = e := ⟨_, rfl⟩
      have hkl2 : k < t.pl.length := hkl
      rw [hpe] at z1 v1
      dsimp only at z1 v1
      by_cases heq : pa = (at_ : Int)
      · subst heq
        have hf : t.y.find (at_ : Int) = some k := find_at hkl (by show t.pl[k].1 = _; rw [hpe]) HK.out
        have hgd : t.pl.getD k (0, 0) = ((at_ : Int), pn) := by rw [List.getD_eq_getElem?_getD, List.getElem?_eq_getElem hkl, hpe]; rfl
        have hft := HFIT.out k hf
        rw [hgd] at hft
        have CS := hide (fyset_any hS hft hn false)
        have HFD := hide hf
        have HGD := hide hgd
        have HPE := hide (show t.pl.set k (-1, pn) = t.pl.set k (-1, t.pl[k].2) from by rw [hpe])
        have HKL := hide hkl
        have HGA := hide hga
        rw [hga] at y1
        rw [hgl] at y2
        have t1 : (((at_ : Int)) == (at_ : Int)) = true := by simp
        clear hS hk1 hk2 hgl hga e1 e2 hpe hf hgd hft
        go_wp2_with fail
        refine CS.out.mono ?_
        rintro e w4 ⟨⟨u, rfl⟩, hS4⟩
        have hrow : (x :: fyR B (t.set at_ pn false))[3]? = some (rowI 3 1 (some ⟨ga, 0, none⟩) t.pl.length t.ca (ints (pl1 t.pl))) := by
          show some (rowI 3 1 t.Aa _ _ _) = _
          rw [HGA.out]; rfl
        have hS5 := hS4.store 3 hrow k (.int .i64 (-1))
        have e : (x :: fyR B (t.set at_ pn false)).set 3 (rowI 3 1 (some ⟨ga, 0, none⟩) t.pl.length t.ca ((ints (pl1 t.pl)).set k (.int .i64 (-1)))) = x :: fyR B (t.giv k at_ pn) := by
          unfold fyR fyC FyT.set FyT.giv
          dsimp only
          rw [List.length_set, pl1_set, HPE.out, pl2_set _ _ HKL.out, HGA.out]
          rfl
        rw [e] at hS5
        obtain ⟨-, y1, -, -, y4, y5⟩ := fy_cells (pre := [x]) hS4
        rw [show (t.set at_ pn false).pl.length = l from HL.out, show (t.set at_ pn false).Aa = some ⟨ga, 0, none⟩ from HGA.out] at y1
        obtain ⟨ga', hga', hk1, z1, z2, z3⟩ := fint_at (hS4.get 3 rfl) (z := k) HKL.out
        have hga2 : (t.set at_ pn false).Aa = some ⟨ga', 0, none⟩ := hga'
        obtain rfl : ga = ga' := by
          rw [show (t.set at_ pn false).Aa = t.Aa from rfl, HGA.out] at hga2
          injection hga2 with hga2
          injection hga2
        obtain ⟨b0, hb0⟩ : ∃ b, (pl1 (t.set at_ pn false).pl)[k] = b := ⟨_, rfl⟩
        rw [hb0] at z1
        have HS5 := hide hS5
        clear hS4 hS5 e hrow CS hga' hga2 hb0 hk1 v1 v2 v3 y2
        go_wp2_with fail
        go_ret
        refine ⟨by rw [HFD.out]; rfl, t.giv k at_ pn, ?_, HS5.out⟩
        unfold FyA.giveO
        rw [HFD.out]
        unfold FyA.give FyT.giv FyT.y
        dsimp only
        rw [HGD.out]
        dsimp only
        rw [Int.toNat_natCast]
      · have HNK := hide (show ∀ j e, j < k + 1 → t.pl[j]? = some e → e.1 ≠ (at_ : Int) from fun j e hj he => by
          rcases Nat.lt_or_ge j k with h1 | h1
          · exact HK.out j e h1 he
          · obtain rfl : j = k := by omega
            rw [List.getElem?_eq_getElem hkl, hpe] at he
            injection he with he
            rw [← he]; exact heq)
        have t1 : (pa == (at_ : Int)) = false := by simp [heq]
        have t2 : decide (pa = (at_ : Int)) = false := by simp [heq]
        have HS := hide hS
        rw [hga] at y1
        clear hS hk1 hk2 hgl hga e1 e2 hpe hkl hkl2
        go_wp2_with fail
        go_roundw
        case rel => exact ⟨k + 1, by omega, by go_num, HNK.out, HS.out⟩
        case measure => simp [intOf]; omega
    · obtain rfl : k = l := by omega
      have hf : t.y.find (at_ : Int) = none := find_not (by show ∀ j e, j < t.pl.length → _; rw [HL.out]; exact HK.out)
      have HFD := hide hf
      have HS := hide hS
      clear hS hf
      go_wp2_with fail
      go_ret
      refine ⟨by rw [HFD.out]; rfl, t, ?_, HS.out⟩
      unfold FyA.giveO
      rw [HFD.out]
end Go.Proofs.Ytjphckfbbiehdaa
