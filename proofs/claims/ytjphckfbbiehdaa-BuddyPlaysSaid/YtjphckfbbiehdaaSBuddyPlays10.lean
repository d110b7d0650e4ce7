/- A piece is taken. -/
import Derived.Test.YtjphckfbbiehdaaSBuddyPlays9
set_option linter.unusedSimpArgs false
set_option linter.unusedVariables false
namespace Go.Proofs.Ytjphckfbbiehdaa
open Go.RowKit
theorem pow_le8 {k : Nat} (hk : k ≤ 8) : 2 ^ k ≤ 256 := Nat.pow_le_pow_right (n := 2) (by omega) hk
theorem wrap_pow {k : Nat} (hk : k ≤ 8) : wrap64 ((2 : Int) ^ k) = ((2 ^ k : Nat) : Int) := by
  have h := pow_le8 hk
  rw [show (2 : Int) ^ k = ((2 ^ k : Nat) : Int) by simp]
  obtain ⟨p, hp⟩ : ∃ p, 2 ^ k = p := ⟨_, rfl⟩
  rw [hp] at h ⊢
  unfold wrap64
  omega
theorem wrap_pow_ {k : Nat} (hk : k ≤ 8) : IntKind.i64.wrap ((2 : Int) ^ k) = ((2 ^ k : Nat) : Int) := by
  have h := pow_le8 hk
  rw [show (2 : Int) ^ k = ((2 ^ k : Nat) : Int) by simp]
  obtain ⟨p, hp⟩ : ∃ p, 2 ^ k = p := ⟨_, rfl⟩
  rw [hp] at h ⊢
  exact wrapF64 _ (by omega) (by omega)
theorem wfN {m : Nat} (h : m ≤ 1000000) : wfI (m : Int) := wfI_of (by omega) (by omega)
theorem fr_empty {tk : List Bool} {L j : Nat} (hlen : tk.length = 2 ^ L) (hL : L ≤ 7) : (∀ x, wfI x → frO tk L j x = none) ↔ ∀ r, ¬ Mx tk L j r := by
  constructor
  · intro h r hr
    have h1 := hr.end_le hlen
    have h2 := pow_le8 (show L ≤ 8 by omega)
    have h5 := Nat.two_pow_pos j
    have h6 : r * 2 ^ j ≤ 256 := Nat.le_trans (Nat.le_trans (Nat.le_add_right _ _) h1) h2
    have h3 := h ((r * 2 ^ j : Nat) : Int) (wfN (Nat.le_trans h6 (by omega)))
    rw [frO_some.2 ⟨rfl, r, rfl, hr⟩] at h3
    cases h3
  · intro h x _
    cases hf : frO tk L j x with
    | none => rfl
    | some m =>
      obtain ⟨_, q, _, hq⟩ := frO_some.1 hf
      exact absurd hq (h q)
theorem bits_xor {a p c : Nat} (ha : a ≤ 1000) (hp : p ≤ 1000) (h : a ^^^ p = c) (hc : c ≤ 100000) : bits .xor .i64 (a : Int) (p : Int) = (c : Int) := by
  unfold bits
  dsimp only
  rw [BitVec.ofInt_natCast, BitVec.ofInt_natCast, BitVec.toNat_xor, BitVec.toNat_ofNat, BitVec.toNat_ofNat, Nat.mod_eq_of_lt (show a < 2 ^ IntKind.i64.bits from Nat.lt_of_le_of_lt ha (by decide)), Nat.mod_eq_of_lt (show p < 2 ^ IntKind.i64.bits from Nat.lt_of_le_of_lt hp (by decide)), h]
  exact wrapF64 _ (by omega) (by omega)
theorem bits_and {a p c : Nat} (ha : a ≤ 1000) (hp : p ≤ 1000) (h : a &&& p = c) (hc : c ≤ 100000) : bits .and .i64 (a : Int) (p : Int) = (c : Int) := by
  unfold bits
  dsimp only
  rw [BitVec.ofInt_natCast, BitVec.ofInt_natCast, BitVec.toNat_and, BitVec.toNat_ofNat, BitVec.toNat_ofNat, Nat.mod_eq_of_lt (show a < 2 ^ IntKind.i64.bits from Nat.lt_of_le_of_lt ha (by decide)), Nat.mod_eq_of_lt (show p < 2 ^ IntKind.i64.bits from Nat.lt_of_le_of_lt hp (by decide)), h]
  exact wrapF64 _ (by omega) (by omega)
theorem xor_bit {q j i a : Nat} (h : i < j) (ha : q * 2 ^ j = a) (ha1 : a ≤ 256) (hi : i ≤ 8) : bits .xor .i64 (a : Int) ((2 ^ i : Nat) : Int) = ((a + 2 ^ i : Nat) : Int) := by
  have h1 := xor_low (q := q) h
  have h2 := pow_le8 hi
  rw [ha] at h1
  obtain ⟨p, hp⟩ : ∃ p, 2 ^ i = p := ⟨_, rfl⟩
  rw [hp] at h1 h2 ⊢
  exact bits_xor (Nat.le_trans ha1 (by decide)) (Nat.le_trans h2 (by decide)) h1 (Nat.le_trans (Nat.add_le_add ha1 h2) (by decide))
/-- The maps while a piece is split. -/
def gTk (tk : List Bool) (L K q j i : Nat) : Int → Option Nat := if i = K then delO (frO tk L K) ((q * 2 ^ K : Nat) : Int) else if j ≤ i ∧ i < K then putO (frO tk L i) ((q * 2 ^ K + 2 ^ i : Nat) : Int) 1 else frO tk L i
theorem gTk_top {tk : List Bool} {L K q : Nat} (i : Nat) : gTk tk L K q K i = if i = K then delO (frO tk L K) ((q * 2 ^ K : Nat) : Int) else frO tk L i := by
  unfold gTk
  by_cases h : i = K
  · rw [if_pos h, if_pos h]
  · rw [if_neg h, if_neg h, if_neg (by omega)]
theorem gTk_step {tk : List Bool} {L K q j : Nat} (hj : j < K) (i : Nat) : gTk tk L K q j i = if i = j then putO (gTk tk L K q (j + 1) j) ((q * 2 ^ K + 2 ^ j : Nat) : Int) 1 else gTk tk L K q (j + 1) i := by
  unfold gTk
  by_cases h : i = j
  · subst h
    rw [if_neg (by omega), if_pos ⟨Nat.le_refl _, hj⟩, if_pos rfl, if_neg (by omega), if_neg (by omega)]
  · rw [if_neg h]
    by_cases h1 : i = K
    · rw [if_pos h1, if_pos h1]
    · rw [if_neg h1, if_neg h1]
      by_cases h2 : j ≤ i ∧ i < K
      · rw [if_pos h2, if_pos (by omega)]
      · rw [if_neg h2, if_neg (by omega)]
theorem gTk_end {L K q need : Nat} {y : FyA} (h : BdOk L y) (hm : Mx y.tk L K q) (hn : need ≤ K) (i : Nat) : gTk y.tk L K q need i = frO (y.take (q * 2 ^ K, 2 ^ K) (2 ^ need)).tk L i := by
  rw [(h.take hm hn).2.1 i]
  funext x
  unfold gTk
  by_cases h1 : i = K
  · subst h1
    rw [if_pos rfl]
    unfold delO
    by_cases h2 : x = ((q * 2 ^ i : Nat) : Int)
    · rw [if_pos h2, if_pos ⟨rfl, h2⟩]
    · rw [if_neg h2, if_neg (fun h => h2 h.2), if_neg (by omega)]
  · simp only [h1, if_false, false_and]
    by_cases h2 : need ≤ i ∧ i < K
    · rw [if_pos h2]
      unfold putO
      by_cases h3 : x = ((q * 2 ^ K + 2 ^ i : Nat) : Int)
      · rw [if_pos h3, if_pos ⟨h2.1, h2.2, h3⟩]
      · rw [if_neg h3, if_neg (fun h => h3 h.2.2)]
    · rw [if_neg h2, if_neg (fun h => h2 ⟨h.1, h.2.1⟩)]
set_option maxRecDepth 100000 in
set_option maxHeartbeats 16000000 in
theorem bdtake_any {F : Nat → Prop} {W0 w : World} {B L : Nat} {t : BdY} {x : Item} (h : Sep F W0 w (x :: bdL B L t)) (hL : L ≤ 7) {y : FyA} (ok : BdOk L y) (hfr : t.fr = frO y.tk L) (htf : t.tf = taO y.pl) (n : Nat) (h0 : 0 < n) (hn : n ≤ 2 ^ L) (M : Nat) (hM : M ≤ 10000) (hnn : ∀ j, t.nn j ≤ M) (htn : t.tn ≤ M) :
    Calls Try.prog 123 #[.pointer (some ⟨B, 0, none⟩), .int .i64 (n : Int)] w fun e w' => (pickK (pcs y.tk L 0) n 2 y.last (pcs y.tk L 0).length = none ∧ e = .returned (.int .i64 (-1)) ∧ Sep F W0 w' (x :: bdL B L t)) ∨
      ∃ i t', pickK (pcs y.tk L 0) n 2 y.last (pcs y.tk L 0).length = some i ∧ e = .returned (.int .i64 (((pcs y.tk L 0).getD i (0, 0)).1 : Int)) ∧ Sep F W0 w' (x :: bdL B L t') ∧ t'.fr = frO (y.take ((pcs y.tk L 0).getD i (0, 0)) (2 ^ needN n)).tk L ∧ t'.tf = taO (y.take ((pcs y.tk L 0).getD i (0, 0)) (2 ^ needN n)).pl ∧ (∀ j, t'.nn j ≤ M + 1) ∧ t'.tn ≤ M + 1 := by
  have HS := hide h
  have HOK := hide ok
  have hp8 := pow_le8 (show L ≤ 8 by omega)
  obtain ⟨b1, b2, b3, -⟩ := h.rules 1 (g := B) (t := 243) rfl
  have b5 := (b1 0).trans (show _ = some (.int .i64 (L : Int)) from rfl)
  have HMB := hide (fun k (hk : k < 8) => (b1 (1 + k)).trans (bdC_at L t hk))
  have HLEN := hide (fun k (hk : k < 8) => fm_len (h.get (3 + k) (bdL_at B L t x hk)))
  have HN2 := hide hn
  clear h ok b1
  go_enter Try.func123, Try.ntmps123
  go_wp2_with fail
  go_loopw [5] (fun s5 wr => ∃ k : Nat, k ≤ L ∧ s5 = .int .i64 (k : Int) ∧ Hid (∀ j, j < k → 2 ^ j < n) ∧ wr = w) (fun s5 _ => 9 - (intOf s5).toNat)
  case atStart => exact ⟨0, by omega, rfl, hide (fun j hj => by omega), rfl⟩
  case round =>
    obtain ⟨k, hk, rfl, HK, rfl⟩ := hrel
    have hsh := wrap_pow (k := k) (by omega)
    by_cases hlt : 2 ^ k < n
    · have hkL : k < L := by
        rcases Nat.lt_or_ge k L with h1 | h1
        · exact h1
        · have := Nat.pow_le_pow_right (n := 2) (by omega) h1
          omega
      have HK2 := hide (show ∀ j, j < k + 1 → 2 ^ j < n from fun j hj => by
        rcases Nat.lt_or_ge j k with h1 | h1
        · exact HK.out j h1
        · obtain rfl : j = k := by omega
          exact hlt)
      have t1 : decide (((2 ^ k : Nat) : Int) < (n : Int)) = true := by rw [decide_eq_true_iff]; exact_mod_cast hlt
      obtain ⟨pk, hpk⟩ : ∃ p, 2 ^ k = p := ⟨_, rfl⟩
      rw [hpk] at hsh t1 hlt
      have t1' : decide (pk < n) = true := by simp [hlt]
      clear hpk HK
      go_wp2_with fail
      exact ⟨⟨k + 1, by omega, by go_num, HK2, trivial⟩, by simp [intOf]; omega⟩
    · have t1 : decide (((2 ^ k : Nat) : Int) < (n : Int)) = false := by rw [decide_eq_false_iff_not]; intro h1; exact hlt (by exact_mod_cast h1)
      have hne : NeedOk n k := ⟨by omega, HK.out⟩
      have hneed : needN n = k := (needN_ok n).uniq hne
      have HNE := hide hne
      have HNEED := hide hneed
      obtain ⟨pk, hpk⟩ : ∃ p, 2 ^ k = p := ⟨_, rfl⟩
      rw [hpk] at hsh t1 hlt
      have t1' : decide (pk < n) = false := by simp [hlt]
      clear hpk HK hne hneed
      go_wp2_with fail
      go_loopw [6] (fun s6 wr2 => ∃ j : Nat, k ≤ j ∧ j ≤ L + 1 ∧ s6 = .int .i64 (j : Int) ∧ Hid (∀ i, k ≤ i → i < j → ∀ r, ¬ Mx y.tk L i r) ∧ wr2 = wr) (fun s6 _ => 9 - (intOf s6).toNat)
      case atStart => exact ⟨k, by omega, by omega, rfl, hide (fun i h1 h2 => by omega), rfl⟩
      case round =>
        obtain ⟨j, hkj, hjL, rfl, HJ, rfl⟩ := hrel
        by_cases hj : j ≤ L
        · have t2 : decide ((j : Int) ≤ (L : Int)) = true := by simp; omega
          have t2' : decide (j ≤ L) = true := by simp; omega
          have t3 : (j : Int) < 8 := by omega
          have m1 := HMB.out j (by omega)
          obtain ⟨s, hs1, hs2, hs3⟩ := HLEN.out j (by omega)
          rw [hfr, fr_empty HOK.out.len hL] at hs3
          by_cases hs : s = 0
          · have hs1' : ∀ ty, (Builtin.len_ #[99] ty #[.map (some (t.mb j))]).run Try.prog _ = .ok (.int .i64 0) _ := fun ty => by rw [hs1 ty, hs]; rfl
            have HJ2 := hide (show ∀ i, k ≤ i → i < j + 1 → ∀ r, ¬ Mx y.tk L i r from fun i h1 h2 => by
              rcases Nat.lt_or_ge i j with h3 | h3
              · exact HJ.out i h1 h3
              · obtain rfl : i = j := by omega
                exact hs3.1 hs)
            clear hs1 hs2 hs3 hs HJ
            go_wp2_with fail
            exact ⟨⟨j + 1, by omega, by omega, by go_num, HJ2, trivial⟩, by simp [intOf]; omega⟩
          · have t4 : ((s : Int) == 0) = false := by rw [beq_eq_false_iff_ne]; omega
            have t4' : decide (s = 0) = false := by simp [hs]
            have hex : ∃ r, Mx y.tk L j r := by
              apply Classical.byContradiction
              intro h1
              exact hs (hs3.2 fun r hr => h1 ⟨r, hr⟩)
            have HEX := hide hex
            have t5 : decide ((L : Int) < (j : Int)) = false := by simp; omega
            have t5' : decide (L < j) = false := by simp; omega
            have hperm := perm_eraseIdx (x :: bdL B L t) (3 + j) (by have := bdL_at B L t x (show j < 8 by omega); exact (List.getElem?_eq_some_iff.1 this).1)
            have hget : (x :: bdL B L t)[3 + j]'(by have := bdL_at B L t x (show j < 8 by omega); exact (List.getElem?_eq_some_iff.1 this).1) = fmI (t.mb j) (t.nn j) (t.fr j) := (List.getElem?_eq_some_iff.1 (bdL_at B L t x (show j < 8 by omega))).2
            rw [hget] at hperm
            have HP := hide hperm
            have CF := hide (first_any (pre := []) (HS.out.perm hperm) (by
              rw [hfr]
              intro z m hz
              obtain ⟨_, q, e, _⟩ := frO_some.1 hz
              omega))
            clear hs2 hs3 hex hperm hget
            go_wp2_with fail
            refine CF.out.mono ?_
            rintro e w5 ⟨z, rfl, hS5, hz⟩
            have hS6 : Sep F W0 w5 (x :: bdL B L t) := hS5.perm HP.out.symm
            obtain ⟨q, hq, rfl, hmin⟩ : ∃ q : Nat, Mx y.tk L j q ∧ z = ((q * 2 ^ j : Nat) : Int) ∧ ∀ r, Mx y.tk L j r → q ≤ r := by
              rw [hfr] at hz
              rcases hz with ⟨_, h1⟩ | ⟨_, _, h1, h2⟩
              · obtain ⟨r, hr⟩ := HEX.out
                exact absurd hr ((fr_empty HOK.out.len hL).1 h1 r)
              · cases hf : frO y.tk L j z with
                | none => exact absurd hf h1
                | some m =>
                  obtain ⟨_, q, e, hq⟩ := frO_some.1 hf
                  refine ⟨q, hq, e, fun r hr => ?_⟩
                  have h3 := hr.end_le HOK.out.len
                  have h6 : r * 2 ^ j ≤ 256 := Nat.le_trans (Nat.le_trans (Nat.le_add_right _ _) h3) hp8
                  have h4 := h2 ((r * 2 ^ j : Nat) : Int) (wfN (Nat.le_trans h6 (by omega))) (by rw [frO_some.2 ⟨rfl, r, rfl, hr⟩]; simp)
                  rw [e] at h4
                  exact Nat.le_of_mul_le_mul_right (by omega) (Nat.two_pow_pos j)
            have hend := hq.end_le HOK.out.len
            have HPS := hide (piece_some HOK.out.len HNE.out hkj hq hmin HJ.out y.last)
            have HQ := hide hq
            obtain ⟨a, ha⟩ : ∃ a, q * 2 ^ j = a := ⟨_, rfl⟩
            have ha1 : a ≤ 256 := by
              have h1 := Nat.le_trans (Nat.le_trans (Nat.le_add_right _ _) hend) hp8
              rw [ha] at h1; exact h1
            have HA := hide ha
            rw [ha]
            obtain ⟨c1, c2, c3, -⟩ := hS6.rules 1 (g := B) (t := 243) rfl
            have m5 := (c1 (1 + j)).trans (bdC_at L t (show j < 8 by omega))
            have HS6 := hide hS6
            have HT1 := hide (bdL_at B L t x (show j < 8 by omega))
            have HT2 := hide (bdL_set B L t x (show j < 8 by omega) (t.nn j) (delO (t.fr j) (a : Int)))
            clear c1 hS5 hS6 hz hmin hq ha hend CF HP HEX b2 b3 b5 m1 hs1
            go_wp2_with (first
              | (at_delete
                 refine wpList_fmDel rfl _ _ rfl HS6.out (3 + j) HT1.out (a : Int) rfl rfl (wfN (by omega)) ?_
                 intro w6 hS7
                 rw [HT2.out] at hS7
                 (have HS7 := hide hS7)
                 clear hS7 HS6 c2 c3 m5))
            go_frame
            clear hsh
            go_loopw [6] (fun s6 wr3 => ∃ (i : Nat) (t2 : BdY), k ≤ i ∧ i ≤ j ∧ s6 = .int .i64 (i : Int) ∧ Hid (t2.mb = t.mb ∧ t2.tb = t.tb ∧ t2.tn = t.tn ∧ t2.tf = t.tf ∧ (∀ r, t2.fr r = gTk y.tk L j q i r) ∧ ∀ r, t2.nn r ≤ M + (if i ≤ r then 1 else 0)) ∧ Sep F W0 wr3 (x :: bdL B L t2)) (fun s6 _ => (intOf s6).toNat)
            case atStart => exact ⟨j, t.up j (t.nn j) (delO (t.fr j) (a : Int)), hkj, by omega, rfl, hide ⟨rfl, rfl, rfl, rfl, fun r => by
              rw [gTk_top]
              show (if r = j then _ else _) = _
              rw [hfr, HA.out], fun r => by
              show (if r = j then t.nn j else t.nn r) ≤ _
              have h1 := hnn r
              have h2 := hnn j
              split <;> omega⟩, HS7.out⟩
            case round =>
              clear HS7
              obtain ⟨i, t2, hki, hij, rfl, HT, hS⟩ := hrel
              obtain ⟨d1, d2, d3, -⟩ := hS.rules 1 (g := B) (t := 243) rfl
              by_cases hik : k < i
              · obtain ⟨i1, hi1⟩ : ∃ i1, i = i1 + 1 := ⟨i - 1, by omega⟩
                have hi8 : i1 < 8 := by omega
                have t6 : decide ((k : Int) < (i : Int)) = true := by simp; omega
                have t6' : decide (k < i) = true := by simp; omega
                have v1 : IntKind.i64.wrap ((i : Int) - 1) = (i1 : Int) := by rw [wrapF64 _ (by omega) (by omega)]; omega
                have v2 := wrap_pow_ (show i1 ≤ 8 by omega)
                have hp1 := pow_le8 (show i1 ≤ 8 by omega)
                have v3 := xor_bit (show i1 < j by omega) HA.out ha1 (show i1 ≤ 8 by omega)
                have hg := gTk_step (tk := y.tk) (L := L) (q := q) (show i1 < j by omega)
                rw [← hi1] at hg
                have e2 : q * 2 ^ j + 2 ^ i1 = a + 2 ^ i1 := by rw [HA.out]
                rw [e2] at hg
                obtain ⟨p1, hp1'⟩ : ∃ p, 2 ^ i1 = p := ⟨_, rfl⟩
                rw [hp1'] at v2 v3 hp1 hg
                obtain ⟨c, hc⟩ : ∃ c, a + p1 = c := ⟨_, rfl⟩
                rw [hc] at v3 hg
                have HC := hide (show c ≤ 1000 from by rw [← hc]; exact Nat.le_trans (Nat.add_le_add ha1 hp1) (by decide))
                have m6 := (d1 (1 + i1)).trans (bdC_at L t2 hi8)
                have j1 : (i1 : Int) < 8 := by omega
                have hmx : Try.prog.follows .mixedOrders = true := by kernel_rfl
                have HT3 := hide (bdL_at B L t2 x hi8)
                have HT4 := hide (bdL_set B L t2 x hi8 (t2.nn i1 + 1) (putO (t2.fr i1) (c : Int) 1))
                have hnb : t2.nn i1 ≤ M := by
                  have := HT.out.2.2.2.2.2 i1
                  rw [if_neg (by omega)] at this
                  exact this
                have HG := hide hg
                have HSD := hide hS.drew
                have HI1 := hide hi1
                have HNB := hide (show t2.nn i1 + 1 < maxLen from Nat.lt_of_le_of_lt (Nat.succ_le_succ (Nat.le_trans hnb hM)) (by decide))
                clear d1 hS hg hp1' hc hi1 hnb e2
                go_upto_region 13 with fail
                go_still_tail 12, hmx
                go_wp2_with (first
                  | (at_mapUpdate
                     refine wpList_fmPut rfl (.tmp 64) (.tmp 69) (.const (.int .i64 1)) rfl HSD.out (3 + i1) HT3.out HNB.out (c : Int) 1 rfl (by simp [Act.eval, v2, v3]) rfl (wfN (Nat.le_trans HC.out (by decide))) (wfN (by decide)) ?_
                     intro w7 hS8
                     (rw [HT4.out] at hS8)
                     (have HS8 := hide hS8)
                     clear hS8 HSD))
                go_roundw
                case rel => exact ⟨i1, t2.up i1 (t2.nn i1 + 1) (putO (t2.fr i1) (c : Int) 1), by have := HI1.out; omega, by have := HI1.out; omega, by first | rfl | (rw [HI1.out]; go_num) | (have := HI1.out; congr 1; omega), hide ⟨HT.out.1, HT.out.2.1, HT.out.2.2.1, HT.out.2.2.2.1, fun r => by
                  show (if r = i1 then putO (t2.fr i1) (c : Int) 1 else t2.fr r) = _
                  rw [HG.out r, HT.out.2.2.2.2.1 i1, HT.out.2.2.2.2.1 r], fun r => by
                  show (if r = i1 then t2.nn i1 + 1 else t2.nn r) ≤ _
                  have h1 := HT.out.2.2.2.2.2 r
                  have h2 := HT.out.2.2.2.2.2 i1
                  have h3 := HI1.out
                  rw [if_neg (by omega)] at h2
                  by_cases h4 : r = i1
                  · rw [if_pos h4, if_pos (by omega)]; omega
                  · rw [if_neg h4]
                    by_cases h5 : i ≤ r
                    · rw [if_pos h5] at h1; rw [if_pos (by omega)]; exact h1
                    · rw [if_neg h5] at h1; split <;> omega⟩, HS8.out⟩
                case measure => have := HI1.out; simp [intOf]; omega
              · obtain rfl : i = k := by omega
                have t6 : decide ((i : Int) < (i : Int)) = false := by simp
                have m6 := (d1 9).trans (show _ = some (.map (some t2.tb)) from rfl)
                have HTN := hide (show t2.tn + 1 < maxLen from Nat.lt_of_le_of_lt (by rw [HT.out.2.2.1]; exact Nat.succ_le_succ (Nat.le_trans htn hM)) (show 10001 < maxLen by decide))
                have HS8 := hide hS
                have HI8 := hide (show i ≤ 8 by omega)
                clear hS d1
                go_wp2_with (first
                  | (at_mapUpdate
                     refine wpList_fmPut rfl (.tmp 73) (.tmp 74) (.tmp 75) rfl HS8.out 2 rfl HTN.out (a : Int) i rfl rfl rfl (wfN (by omega)) (wfN (Nat.le_trans HI8.out (by decide))) ?_
                     intro w7 hS9
                     (have HS9 := hide (show Sep F W0 w7 (x :: bdL B L { t2 with tn := t2.tn + 1, tf := putO t2.tf (a : Int) i }) from hS9))
                     clear hS9 HS8))
                obtain ⟨i0, hpk0, hpg⟩ := HPS.out
                have htk := HOK.out.take HQ.out hij
                refine bodyPost_ret (v := .int .i64 (a : Int)) (by simp [results, Try.results123, go_sem]) rfl (.inr ⟨i0, _, hpk0, by rw [hpg, ← HA.out], HS9.out, ?_, ?_, ?_, ?_⟩)
                · funext r
                  show t2.fr r = _
                  rw [HT.out.2.2.2.2.1 r, hpg, HNEED.out]
                  exact gTk_end HOK.out HQ.out hij r
                · show putO t2.tf (a : Int) i = _
                  rw [HT.out.2.2.2.1, htf, hpg, HNEED.out, htk.2.2, HA.out]
                  rfl
                · intro r
                  show t2.nn r ≤ _
                  have h1 := HT.out.2.2.2.2.2 r
                  split at h1 <;> omega
                · show t2.tn + 1 ≤ _
                  rw [HT.out.2.2.1]; omega
        · obtain rfl : j = L + 1 := by omega
          have t2 : decide (((L + 1 : Nat) : Int) ≤ (L : Int)) = false := by simp; omega
          have t5 : decide ((L : Int) < ((L + 1 : Nat) : Int)) = true := by simp; omega
          have HR := hide (piece_none HOK.out.len HNE.out (fun i h1 h2 => HJ.out i h1 (by omega)) y.last)
          go_wp2_with fail
          refine bodyPost_ret (v := .int .i64 (-1)) (by simp [results, Try.results123, go_sem]) rfl (.inl ⟨HR.out, rfl, HS.out⟩)
end Go.Proofs.Ytjphckfbbiehdaa
