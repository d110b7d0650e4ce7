/- What is free, by place. A script of free words, played by the program. A script of pieces, played by the program. -/
import Derived.Test.YtjphckfbbiehdaaSBuddyPlays6
import Derived.Test.YtjphckfbbiehdaaSBuddyPlays16
import Derived.Deep.DeepCutAuto
import Derived.Deep.CutBlock
set_option linter.unusedSimpArgs false
set_option linter.unusedVariables false
namespace Go.Proofs.Ytjphckfbbiehdaa
open Go.RowKit
/-- Pieces that have been gathered: all of the levels below k, and of level k those that are come to. -/
structure GatI (tk : List Bool) (L k : Nat) (left : Int → Bool) (l : List Bk) : Prop where
  nd : l.Nodup
  mem : ∀ b, b ∈ l ↔ ∃ j q, b = (q * 2 ^ j, 2 ^ j) ∧ Mx tk L j q ∧ (j < k ∨ (j = k ∧ left ((q * 2 ^ j : Nat) : Int) = false))
theorem GatI.begin {tk : List Bool} {L k : Nat} {l : List Bk} (h : GatI tk L k (fun _ => true) l) : GatI tk L k (fun x => (frO tk L k x).isSome) l := by
  refine ⟨h.nd, fun b => ?_⟩
  rw [h.mem]
  constructor
  · rintro ⟨j, q, e, hm, h1⟩
    exact ⟨j, q, e, hm, h1.imp id fun h2 => by simp at h2⟩
  · rintro ⟨j, q, e, hm, h1 | ⟨rfl, h2⟩⟩
    · exact ⟨j, q, e, hm, .inl h1⟩
    · rw [frO_some.2 ⟨rfl, q, rfl, hm⟩] at h2
      cases h2
theorem GatI.step {tk : List Bool} {L k q : Nat} {left : Int → Bool} {l : List Bk} (h : GatI tk L k left l) (hm : Mx tk L k q) (hl : left ((q * 2 ^ k : Nat) : Int) = true) : GatI tk L k (fun z => left z && !decide (z = ((q * 2 ^ k : Nat) : Int))) (l ++ [(q * 2 ^ k, 2 ^ k)]) := by
  refine ⟨?_, fun b => ?_⟩
  · rw [List.nodup_append]
    refine ⟨h.nd, by simp, fun a ha b hb hab => ?_⟩
    rw [List.mem_singleton] at hb
    subst hab hb
    obtain ⟨j, r, e, _, h1⟩ := (h.mem _).1 ha
    injection e with e1 e2
    have hj : k = j := by have h3 := congrArg lvOf e2; rw [lvOf_pow, lvOf_pow] at h3; exact h3
    subst hj
    rcases h1 with h1 | ⟨_, h1⟩
    · omega
    · rw [← e1, hl] at h1; cases h1
  · rw [List.mem_append, h.mem, List.mem_singleton]
    constructor
    · rintro (⟨j, r, e, hm', h1⟩ | rfl)
      · refine ⟨j, r, e, hm', h1.imp id fun h2 => ⟨h2.1, by rw [h2.2]; rfl⟩⟩
      · exact ⟨k, q, rfl, hm, .inr ⟨rfl, by simp⟩⟩
    · rintro ⟨j, r, e, hm', h1 | ⟨rfl, h2⟩⟩
      · exact .inl ⟨j, r, e, hm', .inl h1⟩
      · by_cases hr : r = q
        · subst hr; exact .inr e
        · refine .inl ⟨j, r, e, hm', .inr ⟨rfl, ?_⟩⟩
          have hne : ¬ ((r * 2 ^ j : Nat) : Int) = ((q * 2 ^ j : Nat) : Int) := fun h3 => hr (mul_pow_inj (j := j) (by exact_mod_cast h3))
          rw [decide_eq_false hne, Bool.not_false, Bool.and_true] at h2
          exact h2
theorem GatI.next {tk : List Bool} {L k : Nat} {left : Int → Bool} {l : List Bk} (hlen : tk.length = 2 ^ L) (hL : L ≤ 7) (h : GatI tk L k left l) (hl : ∀ x, wfI x → left x = false) : GatI tk L (k + 1) (fun _ => true) l := by
  refine ⟨h.nd, fun b => ?_⟩
  rw [h.mem]
  have hp8 := pow_le8 (show L ≤ 8 by omega)
  constructor
  · rintro ⟨j, q, e, hm, h1⟩
    exact ⟨j, q, e, hm, .inl (by omega)⟩
  · rintro ⟨j, q, e, hm, h1 | h1⟩
    · refine ⟨j, q, e, hm, ?_⟩
      rcases Nat.lt_or_ge j k with h2 | h2
      · exact .inl h2
      · obtain rfl : j = k := by omega
        have h3 := hm.end_le hlen
        exact .inr ⟨rfl, hl _ (wfN (Nat.le_trans (Nat.le_trans (Nat.le_trans (Nat.le_add_right _ _) h3) hp8) (by omega)))⟩
    · simp at h1
theorem pcs_nodup (tk : List Bool) (L : Nat) : (pcs tk L 0).Nodup := by
  obtain ⟨h1, h2⟩ := pcs_sorted (tk := tk) L 0
  refine List.Pairwise.imp_of_mem (fun {a b} ha hb hab e => ?_) h1
  subst e
  have := (h2 a ha).2.2
  omega
theorem GatI.fin {tk : List Bool} {L k : Nat} {l l' : List Bk} (hlen : tk.length = 2 ^ L) (h : GatI tk L k (fun _ => true) l) (hk : L < k) (hp : l'.Perm l) (hs : l'.Pairwise fun a b => a.1 ≤ b.1) : l' = pcs tk L 0 := by
  have h1 : l.Perm (pcs tk L 0) := (List.perm_ext_iff_of_nodup h.nd (pcs_nodup tk L)).2 fun b => by
    rw [h.mem, pcs_mx hlen]
    constructor
    · rintro ⟨j, q, e, hm, _⟩; exact ⟨j, q, e, hm⟩
    · rintro ⟨j, q, e, hm⟩; exact ⟨j, q, e, hm, .inl (Nat.lt_of_le_of_lt hm.le hk)⟩
  obtain ⟨g1, g2⟩ := pcs_sorted (tk := tk) L 0
  refine List.Perm.eq_of_pairwise (le := fun a b => a.1 ≤ b.1) (fun a b ha hb h3 h4 => ?_) hs (g1.imp fun {a b} h3 => by omega) (hp.trans h1)
  have ha' : a ∈ pcs tk L 0 := (hp.trans h1).mem_iff.1 ha
  rcases List.mem_iff_getElem.1 ha' with ⟨i, hi, rfl⟩
  rcases List.mem_iff_getElem.1 hb with ⟨j, hj, rfl⟩
  rcases Nat.lt_trichotomy i j with h5 | h5 | h5
  · have h6 := List.pairwise_iff_getElem.1 g1 i j hi hj h5
    have := (g2 _ ha').2.2
    omega
  · subst h5; rfl
  · have h6 := List.pairwise_iff_getElem.1 g1 j i hj hi h5
    have := (g2 _ hb).2.2
    omega
theorem pcs_len {tk : List Bool} {L : Nat} : (pcs tk L 0).length ≤ 2 ^ L := by
  obtain ⟨g1, g2⟩ := pcs_sorted (tk := tk) L 0
  have key : ∀ (l : List Bk) (lo hi : Nat), l.Pairwise (fun a b => a.1 + a.2 ≤ b.1) → (∀ b ∈ l, lo ≤ b.1 ∧ b.1 + b.2 ≤ hi ∧ 0 < b.2) → lo ≤ hi → l.length + lo ≤ hi := by
    intro l
    induction l with
    | nil => intro lo hi _ _ h; simpa using h
    | cons b l ih =>
      intro lo hi hp hb hlo
      obtain ⟨p1, p2⟩ := List.pairwise_cons.1 hp
      have h1 := hb b (List.mem_cons_self ..)
      have h2 := ih (lo + 1) hi p2 (fun c hc => by
        have h3 := p1 c hc
        have h4 := hb c (List.mem_cons_of_mem _ hc)
        exact ⟨by omega, h4.2⟩) (by omega)
      rw [List.length_cons]; omega
  have := key (pcs tk L 0) 0 (2 ^ L) g1 (fun b hb => by
    have h := g2 b hb
    exact ⟨Nat.zero_le _, by simpa using h.2.1, h.2.2⟩) (Nat.zero_le _)
  omega
theorem arr8 (t : BdY) {k : Nat} (hk : k < 8) (w : World) : (Instr.index 241 (.agg #[.map (some (t.mb 0)), .map (some (t.mb 1)), .map (some (t.mb 2)), .map (some (t.mb 3)), .map (some (t.mb 4)), .map (some (t.mb 5)), .map (some (t.mb 6)), .map (some (t.mb 7))]) (.int .i64 (k : Int))).run Try.prog w = .ok (.map (some (t.mb k))) w := by
  rcases (show k = 0 ∨ k = 1 ∨ k = 2 ∨ k = 3 ∨ k = 4 ∨ k = 5 ∨ k = 6 ∨ k = 7 by omega) with rfl | rfl | rfl | rfl | rfl | rfl | rfl | rfl <;> kernel_rfl
theorem BdY.up_self (t : BdY) (k : Nat) : t.up k (t.nn k) (t.fr k) = t := by
  obtain ⟨mb, nn, fr, tb, tn, tf⟩ := t
  unfold BdY.up
  dsimp only
  congr 1
  · funext j
    by_cases h : j = k
    · rw [if_pos h, h]
    · rw [if_neg h]
  · funext j
    by_cases h : j = k
    · rw [if_pos h, h]
    · rw [if_neg h]
set_option maxRecDepth 100000 in
set_option maxHeartbeats 16000000 in
theorem bdblocks_any {F : Nat → Prop} {W0 w : World} {B L : Nat} {t : BdY} {x : Item} (h : Sep F W0 w (x :: bdL B L t)) (hL : L ≤ 7) {y : FyA} (ok : BdOk L y) (hfr : t.fr = frO y.tk L) (M : Nat) (hM : M ≤ 10000) (hnn : ∀ j, t.nn j ≤ M) :
    Calls Try.prog 60 #[.pointer (some ⟨B, 0, none⟩)] w fun e w' => ∃ A n c, e = .returned (.slice A n c) ∧ n = (pcs y.tk L 0).length ∧ Sep F W0 w' (rowI 231 2 A n c (bkV (pcs y.tk L 0)) :: x :: bdL B L t) := by
  have HA8 := hide (fun k (hk : k < 8) (w : World) => arr8 t hk w)
  obtain ⟨b1, b2, b3, -⟩ := h.rules 1 (g := B) (t := 243) rfl
  have m0 := (b1 1).trans (show _ = some (.map (some (t.mb 0))) from rfl)
  have m1 := (b1 2).trans (show _ = some (.map (some (t.mb 1))) from rfl)
  have m2 := (b1 3).trans (show _ = some (.map (some (t.mb 2))) from rfl)
  have m3 := (b1 4).trans (show _ = some (.map (some (t.mb 3))) from rfl)
  have m4 := (b1 5).trans (show _ = some (.map (some (t.mb 4))) from rfl)
  have m5 := (b1 6).trans (show _ = some (.map (some (t.mb 5))) from rfl)
  have m6 := (b1 7).trans (show _ = some (.map (some (t.mb 6))) from rfl)
  have m7 := (b1 8).trans (show _ = some (.map (some (t.mb 7))) from rfl)
  have HOK := hide ok
  have HS := hide (h.nilRow0 231 2)
  have HFR := hide hfr
  clear h b1 ok hfr
  go_enter Try.func60, Try.ntmps60
  go_wp2_with fail
  go_loopw [3, 11] (fun s3 s11 wr => ∃ (k : Nat) (l : List Bk) (A : Option Addr) (n c : Nat), k ≤ 8 ∧ s3 = .slice A n c ∧ s11 = .int .i64 (k : Int) ∧ n ≤ 10000 * k ∧ Hid (GatI y.tk L k (fun _ => true) l ∧ l.length = n) ∧ Sep F W0 wr (rowI 231 2 A n c (bkV l) :: x :: bdL B L t)) (fun _ s11 _ => 8 - (intOf s11).toNat)
  case atStart => exact ⟨0, [], none, 0, 0, by omega, rfl, rfl, by omega, hide ⟨⟨List.nodup_nil, fun b => ⟨fun h => by (cases h), fun ⟨j, q, _, _, h⟩ => absurd h (by simp)⟩⟩, rfl⟩, HS.out⟩
  case round =>
    clear HS m0 m1 m2 m3 m4 m5 m6 m7 b2 b3
    obtain ⟨k, l, A, n, c, hk, rfl, rfl, hnk, HG, hS⟩ := hrel
    by_cases hlt : k < 8
    · have t1 : decide ((k : Int) < 8) = true := by simp; omega
      have t1' : (k : Int) < 8 := by omega
      have ha := HA8.out k hlt
      have HAT := hide (show (rowI 231 2 A n c (bkV l) :: x :: bdL B L t)[4 + k]? = some (fmI (t.mb k) (t.nn k) (t.fr k)) from by rw [show 4 + k = 3 + k + 1 by omega, List.getElem?_cons_succ]; exact bdL_at B L t x hlt)
      have hlen : 3 + k < (x :: bdL B L t).length := (List.getElem?_eq_some_iff.1 (bdL_at B L t x hlt)).1
      have HS1 := hide hS
      clear hS
      go_wp2_with (first
        | (at_range
           refine wpList_fmBegin rfl (.tmp 15) rfl HS1.out (4 + k) HAT.out rfl ?_
           intro w4 cnt hcn hS4 hsz4
           (have HS4 := hide hS4)
           clear hS4 HS1))
      go_frame
      obtain ⟨r, hr⟩ : ∃ r, wr.heap.size = r := ⟨_, rfl⟩
      rw [hr] at HS4 ⊢
      have HS5 := hide (show Sep F W0 w4 (rowI 231 2 A n c (bkV l) :: (x :: bdL B L t).set (3 + k) (fmR (t.mb k) r (t.nn k) (t.fr k) (fun z => (t.fr k z).isSome) cnt)) from by
        have h9 := HS4.out
        rw [show 4 + k = 3 + k + 1 by omega, List.set_cons_succ] at h9
        exact h9)
      have hcb : cnt ≤ 10000 := Nat.le_trans hcn (Nat.le_trans (hnn k) hM)
      clear hsz4 hr HS4 HAT hcn
      go_loopw [3] (fun s3 wr2 => ∃ (l2 : List Bk) (A2 : Option Addr) (n2 c2 : Nat) (left : Int → Bool) (cn : Nat), s3 = .slice A2 n2 c2 ∧ n2 + cn ≤ 10000 * k + 10000 ∧ Hid (GatI y.tk L k left l2 ∧ l2.length = n2) ∧ Sep F W0 wr2 (rowI 231 2 A2 n2 c2 (bkV l2) :: (x :: bdL B L t).set (3 + k) (fmR (t.mb k) r (t.nn k) (t.fr k) left cn))) (fun _ wr2 => wr2.rangeLeft (t.mb k) r)
      case atStart => exact ⟨l, A, n, c, _, cnt, rfl, by omega, hide ⟨by have h9 := HG.out.1.begin; rw [← HFR.out] at h9; exact h9, HG.out.2⟩, HS5.out⟩
      case round =>
        clear HS5
        obtain ⟨l2, A2, n2, c2, left, cn, rfl, hnc, HG2, hS⟩ := hrel
        have hat : (rowI 231 2 A2 n2 c2 (bkV l2) :: (x :: bdL B L t).set (3 + k) (fmR (t.mb k) r (t.nn k) (t.fr k) left cn))[4 + k]? = some (fmR (t.mb k) r (t.nn k) (t.fr k) left cn) := by
          rw [show 4 + k = 3 + k + 1 by omega, List.getElem?_cons_succ, List.getElem?_set_self hlen]
        have HM := hide (fmR_left (hS.get (4 + k) hat))
        have hSO := hS
        go_wp2_with (first
          | (at_next
             refine wpList_fmNext rfl (.tmp 16) rfl hSO (4 + k) hat rfl ?_ ?_))
        · intro hc0 hl0
          have HG3 := hide (HG2.out.1.next HOK.out.len hL hl0)
          have HN2 := hide HG2.out.2
          have hS6 := hS.step (4 + k) hat (Chg.refl _ _) (fmI (t.mb k) (t.nn k) (t.fr k)) (fmR_owns (hS.get (4 + k) hat)) (fun g hg => .inl (.inl hg))
          rw [show 4 + k = 3 + k + 1 by omega, List.set_cons_succ, List.set_set, bdL_set B L t x hlt, BdY.up_self] at hS6
          have HS6 := hide hS6
          clear hSO hS hS6 hat hl0 HG2
          go_wp2_with fail
          go_roundw
          case rel => exact ⟨k + 1, l2, A2, n2, c2, by omega, rfl, by go_num, by omega, hide ⟨HG3.out, HN2.out⟩, HS6.out⟩
          case measure => simp [intOf]; omega
        · intro z m w5 cnt' hz hl hc hfz hS5 hsz hent
          rw [HFR.out] at hfz
          obtain ⟨_, q, rfl, hm⟩ := frO_some.1 hfz
          have hgs := HG2.out.1.step hm hl
          have hend := hm.end_le HOK.out.len
          have hp8 := pow_le8 (show L ≤ 8 by omega)
          have hpk := pow_le8 (show k ≤ 8 by omega)
          have v2 := wrap_pow (show k ≤ 8 by omega)
          have v2' := wrap_pow_ (show k ≤ 8 by omega)
          rw [show 4 + k = 3 + k + 1 by omega, List.set_cons_succ, List.set_set] at hS5
          obtain ⟨a, ha⟩ : ∃ a, q * 2 ^ k = a := ⟨_, rfl⟩
          obtain ⟨pw, hpw⟩ : ∃ p, 2 ^ k = p := ⟨_, rfl⟩
          rw [ha] at hgs hS5 hent ⊢
          rw [hpw] at hgs v2 v2'
          have HGS := hide hgs
          have HL2 := hide HG2.out.2
          have HS6 := hide hS5
          have HC := hide hc
          clear hSO hS hS5 hat hz hl hc hfz hm hgs hend hpk ha hpw HG2 hsz
          go_wp2_with (first
            | (at_builtin
               refine wpList_app1 (cs := #[.int .i64 (a : Int), .int .i64 (pw : Int)]) rfl (.tmp 21) (.tmp 26) 47 rfl (F := F) (W := W0) sBk (items := _ :: _) HS6.out 0 (n := n2) rfl rfl rfl (by simp) rfl rfl (by omega) ?_
               intro A7 c7 w7 hS7 hC7
               (have HS7 := hide hS7)
               clear hS7 hC7))
          go_roundw
          case rel => exact ⟨l2 ++ [(a, pw)], A7, n2 + 1, c7, _, cnt', rfl, by have := HC.out; omega, hide ⟨HGS.out, by rw [List.length_append, HL2.out]; rfl⟩, by rw [bkV_app]; exact HS7.out⟩
          case measure =>
            rw [fmR_left (HS7.out.get (4 + k) (by rw [show 4 + k = 3 + k + 1 by omega]; exact List.getElem?_set_self hlen)), HM.out]
            exact HC.out
    · obtain rfl : k = 8 := by omega
      obtain ⟨hg1, hg2⟩ := HG.out
      have hrow : wr.ownsRow 0 231 2 (.slice A n c) n (bkV l) := hS.get 0 rfl
      rcases hrow.2 with ⟨hv, _⟩ | ⟨g', cap, cur, hv, _⟩
      · injection hv with e1 e2 e3
        subst e1 e2 e3
        have hl0 : l = [] := List.eq_nil_of_length_eq_zero hg2
        have hpc := hg1.fin HOK.out.len (by omega) (List.Perm.refl l) (by rw [hl0]; exact List.Pairwise.nil)
        have HPC := hide hpc
        have HL0 := hide hl0
        have HS1 := hide hS
        have CS := hide (fun fv X => bksortNil_any none 0 fv X)
        clear hrow hg1 hg2 hpc hl0 hS
        go_wp2_with fail
        refine (CS.out _ _).mono ?_
        rintro e w6 ⟨rfl, rfl⟩
        go_wp2_with fail
        refine bodyPost_ret (v := .slice none 0 0) (by simp [results, Try.results60, go_sem]) rfl ⟨none, 0, 0, rfl, by rw [← HPC.out, HL0.out]; rfl, by rw [← HPC.out]; exact HS1.out⟩
      · injection hv with e1 e2 e3
        subst e1 e3
        have CS := hide (bksort_any hS 0 rfl (by omega))
        have HG1 := hide hg1
        have HG2 := hide hg2
        clear hrow hg1 hg2 hS
        go_wp2_with fail
        refine CS.out.mono ?_
        rintro e w6 ⟨rfl, l', hp, hs, hS6⟩
        have HPC := hide (HG1.out.fin HOK.out.len (by omega) hp hs)
        have HLN := hide (show l'.length = n from by rw [hp.length_eq]; exact HG2.out)
        have HS6 := hide hS6
        clear hp hs hS6 CS
        go_wp2_with fail
        refine bodyPost_ret (v := .slice (some ⟨g', 0, none⟩) n c) (by simp [results, Try.results60, go_sem]) rfl ⟨some ⟨g', 0, none⟩, n, c, rfl, by rw [← HPC.out, HLN.out], by rw [← HPC.out]; exact HS6.out⟩
end Go.Proofs.Ytjphckfbbiehdaa

namespace Go.Proofs.Ytjphckfbbiehdaa
open Go.RowKit
theorem rd_blk {w : World} {g t size : Nat} {cs : Array Value} (h : Blk w g t cs) (hs : cs.size = size) : Rd w (fun _ => True) size (some ⟨g, 0, none⟩) 1 cs.toList := by
  refine ⟨by simp [hs], fun _ => ⟨⟨g, 0, none⟩, rfl, trivial, Blk.lt h, fun j u hu => ?_⟩⟩
  rw [bk_addr, Nat.zero_add, h.cell j]
  simpa using hu
theorem one_int (x : Int) : ∀ u ∈ #[Value.int .i64 x].toList, u.oneCell' = true := by
  intro u hu
  rw [List.mem_singleton.1 hu]; rfl
end Go.Proofs.Ytjphckfbbiehdaa

namespace Go.Proofs.Ytjphckfbbiehdaa
open Go.RowKit
theorem Sep.bdAdd {W w w' : World} {pre : List Item} {B L : Nat} {t : BdY} (h : Sep No W w pre) (h2 : Sep No w w' (bdL B L t)) : Sep No W w' (pre ++ bdL B L t) := by
  have h3 := h2.fold
  have h4 := h.consNew h2.below_ (allI (bdL B L t)) (h3.get 0 rfl) (fun g hg => (h3.lo 0 rfl g hg).resolve_left (fun h => h))
  exact (h4.split).perm List.perm_append_comm
set_option maxRecDepth 1000000 in
set_option maxHeartbeats 32000000 in
theorem bdPlay_ok (w : World) (L : Nat) (hL : L ≤ 7) (Aq : Option Addr) (nd cd : Nat) (qs : List (Int × Int)) (hQ : Rd w (fun _ => True) 2 Aq nd (askV qs)) (hnd : nd ≤ 100) (hwf : ∀ q ∈ qs, wfI q.2) :
    Calls Try.prog 21 #[.int .i64 (L : Int), .slice Aq nd cd] w fun e w' => ∃ A1 A2 A3 c1 c2 n3 c3, e = .returned (.tuple #[freedV A1 A2 A3 nd n3 c1 c2 c3, .int .i64 0]) ∧ Below w.heap.size w w' ∧ Rd w' (fun g => w.heap.size ≤ g) 1 A1 nd (ints ((runS (fbStep L) qs (fy0 (2 ^ L))).1.map fun e => e.1)) ∧ Rd w' (fun g => w.heap.size ≤ g) 1 A2 nd (ints ((runS (fbStep L) qs (fy0 (2 ^ L))).1.map fun e => e.2)) ∧ n3 = (pcs (runS (fbStep L) qs (fy0 (2 ^ L))).2.tk L 0).length ∧ Rd w' (fun g => w.heap.size ≤ g) 2 A3 n3 (bkV (pcs (runS (fbStep L) qs (fy0 (2 ^ L))).2.tk L 0)) := by
  unfold freedV
  have HDL := hide (show qs.length = nd by have := hQ.1; rw [askV_length] at this; omega)
  have HOK := hide (bd_run (L := L) qs)
  have HWF := hide hwf
  obtain ⟨g, hg⟩ : ∃ g, w.heap.size = g := ⟨_, rfl⟩
  have hS0 := (Sep.nil No w).blkAt 49 #[.slice none 0 0, .slice none 0 0, .slice none 0 0] hg
  have HS0 := hide hS0
  have HQ := hide hQ
  have i1 : ¬ (7 : Int) < (L : Int) := by omega
  have i2 : decide ((7 : Int) < (L : Int)) = false := by simp; omega
  have i3 : ¬ (L : Int) < 0 := by omega
  have i4 : decide ((L : Int) < 0) = false := by simp
  have i5 : ¬ (100 : Int) < (nd : Int) := by omega
  have i6 : decide ((100 : Int) < (nd : Int)) = false := by simp; omega
  clear hS0 hQ hwf
  go_enter Try.func21, Try.ntmps21
  go_wp2_with fail
  refine (bdopen_any _ L hL).mono ?_
  rintro e w1 ⟨B, t0, rfl, hN1, hfr0, htf0, hnn0, htn0⟩
  have hR0 : BdRel L 1 t0 (fy0 (2 ^ L)) := ⟨by
    rw [hfr0]
    funext j
    exact (frO_all L j).symm, by
    rw [htf0]
    funext x
    show none = if 0 ≤ x then _ else none
    split <;> rfl, hnn0, by omega⟩
  have HR0 := hide hR0
  have hS1 := HS0.out.bdAdd hN1
  obtain ⟨gO, hgO⟩ : ∃ g, w1.heap.size = g := ⟨_, rfl⟩
  have hS3 := ((hS1.blkAtF 49 #[.slice none 0 0, .slice none 0 0, .slice none 0 0] hgO).nilRow0 3 1).nilRow0 30 1
  have HS3 := hide hS3
  clear hS1 hS3 HS0 hN1 hR0 hfr0 htf0 hnn0 htn0
  go_wp2_with fail
  go_loopw [27] (fun q wr => ∃ (k : Nat) (A1 : Option Addr) (c1 : Nat) (A2 : Option Addr) (c2 : Nat) (t : BdY), k ≤ nd ∧ q = .int .i64 k ∧ Hid (BdRel L (1 + k) t (runS (fbStep L) (qs.take k) (fy0 (2 ^ L))).2) ∧ Sep No w wr ([rowI 30 1 A1 k c1 (ints ((runS (fbStep L) (qs.take k) (fy0 (2 ^ L))).1.map fun e => e.1)), rowI 3 1 A2 k c2 (ints ((runS (fbStep L) (qs.take k) (fy0 (2 ^ L))).1.map fun e => e.2)), blkI gO 49 #[.slice A1 k c1, .slice A2 k c2, .slice none 0 0], blkI g 49 #[.slice none 0 0, .slice none 0 0, .slice none 0 0]] ++ bdL B L t)) (fun q _ => nd - (intOf q).toNat)
  case atStart => exact ⟨0, none, 0, none, 0, t0, by omega, rfl, HR0, HS3.out⟩
  case round =>
    clear HS3 HR0
    obtain ⟨k, A1, c1, A2, c2, t, hk, rfl, HI, hS⟩ := hrel
    obtain ⟨okk, hkk⟩ := HOK.out k (by have := HDL.out; omega)
    have HO := hide okk
    by_cases hlt : k < nd
    · have hkl : k < qs.length := by rw [HDL.out]; exact hlt
      obtain ⟨v0, v1⟩ := askV_at qs k hkl
      obtain ⟨ad, hA, _, had, hc, hd⟩ := (HQ.out.below hS.below_).atN hlt
      have e0 := hc _ v0
      have e1 := hd 0 _ v1
      have hrs := runS_at (fbStep L) qs (fy0 (2 ^ L)) k hkl
      have hwq := HWF.out qs[k] (List.getElem_mem hkl)
      obtain ⟨⟨qk, qn⟩, hq⟩ : ∃ q, qs[k] = q := ⟨_, rfl⟩
      rw [hq] at e0 e1 hrs hwq
      dsimp only at e0 e1 hwq
      have HRS := hide hrs
      have HWQ := hide hwq
      obtain ⟨gd, hgd⟩ : ∃ x, wr.heap.size = x := ⟨_, rfl⟩
      have hS2 := hS.blkAtF 127 #[.int .i64 qk, .int .i64 qn] hgd
      obtain ⟨W2, hW2⟩ : ∃ W, wr.alloc (.cells #[.int .i64 qk, .int .i64 qn] 127) = W := ⟨_, rfl⟩
      rw [hW2] at hS2
      have HW2 := hide hW2
      have HS2 := hide (show Sep No w W2 ([blkI gd 127 #[.int .i64 qk, .int .i64 qn], rowI 30 1 A1 k c1 (ints ((runS (fbStep L) (qs.take k) (fy0 (2 ^ L))).1.map fun e => e.1)), rowI 3 1 A2 k c2 (ints ((runS (fbStep L) (qs.take k) (fy0 (2 ^ L))).1.map fun e => e.2)), blkI gO 49 #[.slice A1 k c1, .slice A2 k c2, .slice none 0 0], blkI g 49 #[.slice none 0 0, .slice none 0 0, .slice none 0 0]] ++ bdL B L t) from hS2)
      subst hA
      clear hc hd v0 v1 hrs hq hS2 hS okk hkk hkl hW2 hwq
      go_upto_region 10 with fail
      rw [HW2.out]
      obtain ⟨z1, z2, z3, -⟩ := HS2.out.rules 0 (g := gd) (t := 127) rfl
      have z5 := (z1 0).trans (show _ = some (.int .i64 qk) from rfl)
      have z6 := (z1 1).trans (show _ = some (.int .i64 qn) from rfl)
      have CA := hide (bdask_any (fy_gather HS2.out) hL HO.out.ok (1 + k) (by omega) HI.out qk qn HWQ.out)
      clear HW2 e0 e1 had hgd z1
      go_wp2_with fail
      refine CA.out.mono ?_
      rintro e w4 ⟨rfl, t2, hr2, hS4⟩
      obtain ⟨⟨⟨ce, cz⟩, y2⟩, hst⟩ : ∃ s, fbStep L (qk, qn) (runS (fbStep L) (qs.take k) (fy0 (2 ^ L))).2 = s := ⟨_, rfl⟩
      have hrs := HRS.out
      rw [hst] at hrs hr2
      rw [hst]
      dsimp only at hrs hr2 ⊢
      have HRS2 := hide hrs
      have HR2 := hide hr2
      have HS3 := hide (fy_ungather hS4)
      obtain ⟨u1, u2, u3, -⟩ := (fy_ungather hS4).rules 3 (g := gO) (t := 49) rfl
      have u5 := (u1 0).trans (show _ = some (.slice A1 k c1) from rfl)
      have u6 := (u1 1).trans (show _ = some (.slice A2 k c2) from rfl)
      clear hS4 u1 CA HS2 hst hrs hr2 HRS z2 z3 z5 z6 HI HO HQ HOK HWF HWQ
      go_upto_region 11 with fail
      go_region_law (first
      | (refine step_app1d (cs := #[.int .i64 ce]) rfl (.tmp 38) (.tmp 40) 46 rfl (F := No) (W := w) sErr (items := _ :: _ :: _ :: _ :: _ :: _) HS3.out 1 (n := k) rfl rfl rfl (by simp) rfl rfl (by omega) ?_
         intro A6 c6 w6 hS6 hC6
         (have hS6' := hS6)
         (have HS6 := hide hS6')
         obtain ⟨v1, v2, v3, -⟩ := hS6'.rules 3 (g := gO) (t := 49) rfl
         (have v5 := (v1 0).trans (show _ = some (.slice A1 k c1) from rfl))
         (have v6 := (v1 1).trans (show _ = some (.slice A2 k c2) from rfl))
         clear hS6 hS6' hC6 v1)
      | (refine step_app1d (cs := #[.int .i64 ce]) rfl (.tmp 38) (.tmp 40) 46 rfl (F := No) (W := w) sErr (items := _ :: _ :: _ :: _ :: _ :: _ :: _) (HS3.out.blkAtF 3 #[.int .i64 cz] rfl) 2 (n := k) rfl rfl rfl (by simp) rfl rfl (by omega) ?_
         intro A6 c6 w6 hS6 hC6
         (have hS6' := hS6.sub (List.sublist_cons_self _ _))
         (have HZ6 := hide (hS6.get 0 (i := blkI _ 3 #[.int .i64 cz]) rfl))
         (have HS6 := hide hS6')
         obtain ⟨v1, v2, v3, -⟩ := hS6'.rules 3 (g := gO) (t := 49) rfl
         (have v5 := (v1 0).trans (show _ = some (.slice A1 k c1) from rfl))
         (have v6 := (v1 1).trans (show _ = some (.slice A2 k c2) from rfl))
         clear hS6 hS6' hC6 v1)
      | (refine step_app rfl (.tmp 38) (.tmp 40) 46 rfl (F := No) (W := w) sErr (items := _ :: _ :: _ :: _ :: _ :: _ :: _ :: _) ((HS3.out.blkAtF 30 #[.int .i64 ce] rfl).blkAtF 3 #[.int .i64 cz] (g := w4.heap.size + 1) (by simp)).drew 3 (n := k) rfl rfl rfl (rd_blk (((HS3.out.blkAtF 30 #[.int .i64 ce] rfl).blkAtF 3 #[.int .i64 cz] (g := w4.heap.size + 1) (by simp)).drew.get 1 rfl) rfl) (one_int ce) (by omega) ?_
         intro A6 c6 w6 hS6 hC6
         (have hS6' := (hS6.sub (List.sublist_cons_self _ _)).sub (List.sublist_cons_self _ _))
         (have HZ6 := hide (hS6.get 0 (i := blkI _ 3 #[.int .i64 cz]) rfl))
         (have HS6 := hide hS6')
         obtain ⟨v1, v2, v3, -⟩ := hS6'.rules 3 (g := gO) (t := 49) rfl
         (have v5 := (v1 0).trans (show _ = some (.slice A1 k c1) from rfl))
         (have v6 := (v1 1).trans (show _ = some (.slice A2 k c2) from rfl))
         clear hS6 hS6' hC6 v1)
      | (refine step_app1 (cs := #[.int .i64 cz]) rfl (.tmp 43) (.tmp 45) 35 rfl (F := No) (W := w) sInt (items := _ :: _ :: _ :: _ :: _ :: _) HS6.out 2 (n := k) rfl rfl rfl (by simp) rfl rfl (by omega) ?_
         intro A7 c7 w7 hS7 hC7
         (have HS7 := hide ((hS7.set_ 3 (g := gO) (t := 49) rfl 0 (.slice A6 (k + 1) c6)).set_ 3 (g := gO) (t := 49) rfl 1 (.slice A7 (k + 1) c7)))
         obtain ⟨v1, v2, v3, -⟩ := hS7.rules 3 (g := gO) (t := 49) rfl
         (have v5 := (v1 0).trans (show _ = some (.slice A1 k c1) from rfl))
         (have v6 := (v1 1).trans (show _ = some (.slice A2 k c2) from rfl))
         clear hS7 hC7 v1)
      | (refine step_app rfl (.tmp 43) (.tmp 45) 35 rfl (F := No) (W := w) sInt (items := _ :: _ :: _ :: _ :: _ :: _) HS6.out 2 (n := k) rfl rfl rfl (rd_blk HZ6.out rfl) (one_int cz) (by omega) ?_
         intro A7 c7 w7 hS7 hC7
         (have HS7 := hide ((hS7.set_ 3 (g := gO) (t := 49) rfl 0 (.slice A6 (k + 1) c6)).set_ 3 (g := gO) (t := 49) rfl 1 (.slice A7 (k + 1) c7)))
         obtain ⟨v1, v2, v3, -⟩ := hS7.rules 3 (g := gO) (t := 49) rfl
         (have v5 := (v1 0).trans (show _ = some (.slice A1 k c1) from rfl))
         (have v6 := (v1 1).trans (show _ = some (.slice A2 k c2) from rfl))
         clear hS7 hC7 v1))
      all_goals
        have HS8 := hide (HS7.out.sub (List.sublist_cons_self _ _))
        clear HS7
        go_wp2_with fail
        go_roundw
        case rel => exact ⟨k + 1, A6, c6, A7, c7, t2, by omega, by go_num, by rw [HRS2.out]; exact hide (by rw [show 1 + (k + 1) = 1 + k + 1 by omega]; exact HR2.out), by
          rw [HRS2.out]
          dsimp only
          rw [map_snoc, map_snoc, ints_snoc, ints_snoc]
          exact HS8.out⟩
        case measure => simp [intOf]; omega
    · obtain rfl : k = nd := by omega
      rw [List.take_of_length_le (by rw [HDL.out]; exact Nat.le_refl _)] at hS HI HO
      have hS1 := fy_gather (L := bdL B L t) hS
      have CB := hide (bdblocks_any hS1 hL HO.out.ok HI.out.fr (1 + k) (by omega) HI.out.nn)
      clear hS hS1 okk hkk
      go_wp2_with fail
      refine CB.out.mono ?_
      rintro e w5 ⟨A3, fl, c3, rfl, hfl, hS5⟩
      have hS6 := ((hS5.sub (List.sublist_append_left [_, _] _)).perm (List.Perm.swap _ _ _)).split
      obtain ⟨u1, u2, u3, -⟩ := hS6.rules 2 (g := gO) (t := 49) rfl
      have u5 := (u1 0).trans (show _ = some (.slice A1 k c1) from rfl)
      have u6 := (u1 1).trans (show _ = some (.slice A2 k c2) from rfl)
      have u7 := (u1 2).trans (show _ = some (.slice none 0 0) from rfl)
      obtain ⟨x1, x2, x3, -⟩ := hS6.rules 3 (g := g) (t := 49) rfl
      have n1 : gO ≠ g := fun e => hS6.other (a := 2) (b := 3) rfl rfl (by omega) gO rfl e
      have n2 : g ≠ gO := fun e => n1 e.symm
      have HS := hide hS6
      have HFL := hide hfl
      clear hS5 hS6 u1 hfl CB
      go_wp2_with fail
      have hF := (((HS.out.set_ 2 (g := gO) (t := 49) rfl 2 (.slice A3 fl c3)).set_ 3 (g := g) (t := 49) rfl 0 (.slice A1 k c1)).set_ 3 (g := g) (t := 49) rfl 1 (.slice A2 k c2)).set_ 3 (g := g) (t := 49) rfl 2 (.slice A3 fl c3)
      refine bodyPost_ret (v := .tuple #[.agg #[.slice A1 k c1, .slice A2 k c2, .slice A3 fl c3], .int .i64 0]) (by simp [results, Try.results21, go_sem, x1]) rfl ⟨A1, A2, A3, c1, c2, fl, c3, rfl, hF.below_, hF.rd 0 rfl, hF.rd 1 rfl, HFL.out, hF.rd 4 rfl⟩
end Go.Proofs.Ytjphckfbbiehdaa
