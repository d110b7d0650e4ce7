/- The reference's yard: what it has in memory; its free blocks; words are set. slices.BinarySearchFunc over blocks: where a place belongs. slices.Insert of one block into a row: what the copies do. The chooser of a policy. -/
import Derived.Test.YtjphckfbbiehdaaSBuddyPlays2
import Derived.Test.YtjphckfbbiehdaaSBuddyPlays1
import Derived.Test.YtjphckfbbiehdaaSBuddyPlays4
import Derived.Deep.DeepCutAuto
import Derived.StillTailTactics
import Derived.Laws.CopyRow
import Derived.Lib.Overlaps
import Derived.Lib.AppendZerosOnto
import Derived.Lib.QuietBelow
set_option linter.unusedSimpArgs false
set_option linter.unusedVariables false
namespace Go.Proofs.Ytjphckfbbiehdaa
open Go.RowKit
def bkV (l : List Bk) : List Value := l.flatMap fun b => [.int .i64 (b.1 : Int), .int .i64 (b.2 : Int)]
theorem bkV_length (l : List Bk) : (bkV l).length = l.length * 2 := by
  unfold bkV
  induction l with
  | nil => rfl
  | cons b l ih => simp [List.flatMap_cons, ih]; omega
theorem bkV_at (l : List Bk) (k : Nat) (hk : k < l.length) : (bkV l)[k * 2]? = some (.int .i64 (l[k].1 : Int)) ∧ (bkV l)[k * 2 + 1]? = some (.int .i64 (l[k].2 : Int)) := by
  unfold bkV
  induction l generalizing k with
  | nil => cases hk
  | cons b l ih =>
    cases k with
    | zero => exact ⟨rfl, rfl⟩
    | succ k =>
      obtain ⟨h1, h2⟩ := ih k (by simpa using hk)
      rw [List.flatMap_cons]
      refine ⟨?_, ?_⟩
      · rw [List.getElem?_append_right (by simp; omega)]
        simp only [List.length_cons, List.length_nil, List.getElem_cons_succ]
        rw [show (k + 1) * 2 - (0 + 1 + 1) = k * 2 by omega]; exact h1
      · rw [List.getElem?_append_right (by simp; omega)]
        simp only [List.length_cons, List.length_nil, List.getElem_cons_succ]
        rw [show (k + 1) * 2 + 1 - (0 + 1 + 1) = k * 2 + 1 by omega]; exact h2
theorem bkV_app (l : List Bk) (b : Bk) : bkV (l ++ [b]) = bkV l ++ [.int .i64 (b.1 : Int), .int .i64 (b.2 : Int)] := by unfold bkV; simp
theorem bkV_set2 (l : List Bk) (k n : Nat) (hk : k < l.length) : bkV (l.set k (l[k].1, n)) = (bkV l).set (k * 2 + 1) (.int .i64 (n : Int)) := by
  unfold bkV
  induction l generalizing k with
  | nil => cases hk
  | cons b l ih =>
    cases k with
    | zero => rfl
    | succ k =>
      have h := ih k (by simpa using hk)
      simp only [List.getElem_cons_succ, List.set_cons_succ, List.flatMap_cons]
      rw [h, List.set_append_right _ _ (by simp; omega), show (k + 1) * 2 + 1 - [Value.int IntKind.i64 (b.1 : Int), Value.int IntKind.i64 (b.2 : Int)].length = k * 2 + 1 by simp; omega]
theorem bk_at {w : World} {A : Option Addr} {n c : Nat} {l : List Bk} (h : (rowI 231 2 A n c (bkV l)).P w) {k : Nat} (hk : k < n) : ∃ g, A = some ⟨g, 0, none⟩ ∧ g < w.heap.size ∧ ∃ hl : k < l.length, w.cell? ⟨g, k * 2, none⟩ = some (.int .i64 (l[k].1 : Int)) ∧ w.cell? ⟨g, k * 2 + 1, none⟩ = some (.int .i64 (l[k].2 : Int)) ∧ w.frozen? ⟨g, k * 2, none⟩ = false ∧ w.frozen? ⟨g, k * 2 + 1, none⟩ = false := by
  have ho : w.ownsRow 0 231 2 (.slice A n c) n (bkV l) := h
  have hl : l.length = n := by have h1 := ho.1; rw [bkV_length] at h1; omega
  obtain ⟨g, hA⟩ := hown_addr ho (by omega)
  subst hA
  obtain ⟨fd, hA, _, hb, hc3, hd3⟩ := (Rd.of_own (D := fun _ => True) ho (fun _ _ => trivial)).atN hk
  obtain rfl : (⟨g, 0, none⟩ : Addr) = fd := by injection hA
  obtain ⟨v0, v1⟩ := bkV_at l k (by omega)
  have e2 := hc3 _ v0
  have e3 := hd3 0 _ v1
  rw [hraddr0] at e2 e3
  exact ⟨g, rfl, hb, by omega, e2, e3, ho.frozenAt _, ho.frozenAt _⟩
theorem sBk : SliceT Try.prog 47 231 2 16 := SliceT.mk_ Try.underlying47 (z := .agg #[.int .i64 0, .int .i64 0]) (by kernel_rfl) rfl (by omega)
theorem wrapF64 (x : Int) (h0 : -1000000 ≤ x) (h1 : x ≤ 1000000) : IntKind.i64.wrap x = x := by
  unfold IntKind.wrap
  simp [IntKind.signed, IntKind.bits]
  omega
theorem blkStep_nil (i : Nat) : blkStep [] i = [(i, 1)] := rfl
theorem blkStep_last {l : List Bk} {i m : Nat} (hm : l.length = m + 1) : blkStep l i = if (l[m]'(by omega)).1 + (l[m]'(by omega)).2 = i then l.set m ((l[m]'(by omega)).1, (l[m]'(by omega)).2 + 1) else l ++ [(i, 1)] := by
  rcases List.eq_nil_or_concat l with rfl | ⟨L, b, hl⟩
  · cases hm
  · rw [List.concat_eq_append] at hl
    subst hl
    have hL : L.length = m := by simpa using hm
    subst hL
    have e : (L ++ [b])[L.length]'(by simp) = b := by simp
    unfold blkStep
    rw [List.getLast?_concat]
    dsimp only
    rw [e, List.dropLast_concat, List.set_append_right _ _ (Nat.le_refl _), Nat.sub_self]
    rfl
theorem blkK_len (tk : List Bool) : ∀ k, (blkK tk k).length ≤ k
  | 0 => Nat.le_refl _
  | k + 1 => by
    have ih := blkK_len tk k
    unfold blkK
    split
    · omega
    · rcases Nat.eq_zero_or_pos (blkK tk k).length with h | h
      · rw [List.eq_nil_of_length_eq_zero h, blkStep_nil]; simp
      · obtain ⟨m, hm⟩ : ∃ m, (blkK tk k).length = m + 1 := ⟨(blkK tk k).length - 1, by omega⟩
        rw [blkStep_last hm]
        split
        · rw [List.length_set]; omega
        · rw [List.length_append, List.length_singleton]; omega
structure FyT where
  Ak : Option Addr
  ck : Nat
  tk : List Bool
  Aa : Option Addr
  ca : Nat
  Al : Option Addr
  cl : Nat
  pl : List (Int × Nat)
  last : Nat
def FyT.y (t : FyT) : FyA := ⟨t.tk, t.pl, t.last⟩
def pl1 (l : List (Int × Nat)) : List Int := l.map fun e => e.1
def pl2 (l : List (Int × Nat)) : List Int := l.map fun e => (e.2 : Int)
def fyC (t : FyT) : Array Value := #[.slice t.Ak t.tk.length t.ck, .slice t.Aa t.pl.length t.ca, .slice t.Al t.pl.length t.cl, .int .i64 (t.last : Int)]
def fyR (B : Nat) (t : FyT) : List Item := [blkI B 135 (fyC t), rowI 4 1 t.Ak t.tk.length t.ck (bools t.tk), rowI 3 1 t.Aa t.pl.length t.ca (ints (pl1 t.pl)), rowI 3 1 t.Al t.pl.length t.cl (ints (pl2 t.pl))]
def fyI (B : Nat) (t : FyT) : Item := allI (fyR B t)
theorem fy_cells {F : Nat → Prop} {W w : World} {B : Nat} {t : FyT} {pre : List Item} (h : Sep F W w (pre ++ fyR B t)) :
    w.cell? ⟨B, 0, none⟩ = some (.slice t.Ak t.tk.length t.ck) ∧ w.cell? ⟨B, 1, none⟩ = some (.slice t.Aa t.pl.length t.ca) ∧ w.cell? ⟨B, 2, none⟩ = some (.slice t.Al t.pl.length t.cl) ∧ w.cell? ⟨B, 3, none⟩ = some (.int .i64 (t.last : Int)) ∧ (∀ i, w.frozen? ⟨B, i, none⟩ = false) ∧ B < w.heap.size := by
  obtain ⟨c1, c2, c3, _⟩ := h.rules pre.length (g := B) (t := 135) (cs := fyC t) (by rw [List.getElem?_append_right (by omega)]; simp [fyR])
  exact ⟨(c1 0).trans rfl, (c1 1).trans rfl, (c1 2).trans rfl, (c1 3).trans rfl, c2, c3⟩
theorem fbool_at {w : World} {A : Option Addr} {n c : Nat} {l : List Bool} (h : (rowI 4 1 A n c (bools l)).P w) {z : Nat} (hz : z < n) : ∃ g, A = some ⟨g, 0, none⟩ ∧ ∃ hl : z < l.length, w.cell? ⟨g, z, none⟩ = some (.bool l[z]) ∧ w.frozen? ⟨g, z, none⟩ = false ∧ g < w.heap.size := by
  have ho : w.ownsRow 0 4 1 (.slice A n c) n (bools l) := h
  have hl : l.length = n := by have := ho.1; simpa [bools] using this
  obtain ⟨g, hA⟩ := hown_addr ho (by omega)
  subst hA
  obtain ⟨fd, hA, _, hb, hc⟩ := (Rd.of_own (D := fun _ => True) ho (fun _ _ => trivial)).at_ hz
  obtain rfl : (⟨g, 0, none⟩ : Addr) = fd := by injection hA
  have e := hc (.bool l[z]) (by simp [bools, List.getElem?_eq_getElem (show z < l.length by omega)])
  rw [hraddr0] at e
  exact ⟨g, rfl, by omega, e, ho.frozenAt _, hb⟩
theorem fint_at {w : World} {A : Option Addr} {n c : Nat} {l : List Int} (h : (rowI 3 1 A n c (ints l)).P w) {z : Nat} (hz : z < n) : ∃ g, A = some ⟨g, 0, none⟩ ∧ ∃ hl : z < l.length, w.cell? ⟨g, z, none⟩ = some (.int .i64 l[z]) ∧ w.frozen? ⟨g, z, none⟩ = false ∧ g < w.heap.size := by
  have ho : w.ownsRow 0 3 1 (.slice A n c) n (ints l) := h
  have hl : l.length = n := by have := ho.1; simpa [ints] using this
  obtain ⟨g, hA⟩ := hown_addr ho (by omega)
  subst hA
  obtain ⟨fd, hA, _, hb, hc⟩ := (Rd.of_own (D := fun _ => True) ho (fun _ _ => trivial)).at_ hz
  obtain rfl : (⟨g, 0, none⟩ : Addr) = fd := by injection hA
  have e := hc (.int .i64 l[z]) (by simp [ints, List.getElem?_eq_getElem (show z < l.length by omega)])
  rw [hraddr0] at e
  exact ⟨g, rfl, by omega, e, ho.frozenAt _, hb⟩
set_option maxRecDepth 100000 in
set_option maxHeartbeats 8000000 in
theorem fyblocks_any {B : Nat} {t : FyT} {w : World} (hP : (fyI B t).P w) (hn : t.tk.length ≤ 300) :
    Calls Try.prog 56 #[.pointer (some ⟨B, 0, none⟩)] w fun e w' => ∃ A c, e = .returned (.slice A (blksF t.tk).length c) ∧ Sep No w w' [rowI 231 2 A (blksF t.tk).length c (bkV (blksF t.tk))] := by
  have HPB := hide (fun (X : World) (hb : Below w.heap.size w X) => (show Sep _ w X ([] ++ fyR B t) from ((Sep.start hP).below hb).flat))
  obtain ⟨tk, htk⟩ : ∃ l, t.tk = l := ⟨_, rfl⟩
  have HTK := hide htk
  rw [htk] at hn ⊢
  obtain ⟨n, hnn⟩ : ∃ n, tk.length = n := ⟨_, rfl⟩
  have HN := hide hnn
  rw [hnn] at hn
  unfold blksF
  rw [hnn]
  clear hP htk hnn
  go_enter Try.func56, Try.ntmps56
  go_wp2_with fail
  go_loopw [3, 4] (fun s i wr => ∃ (k : Nat) (A : Option Addr) (c m : Nat), k ≤ n ∧ i = .int .i64 k ∧ s = .slice A m c ∧ Hid ((blkK tk k).length = m) ∧ Sep No w wr [rowI 231 2 A m c (bkV (blkK tk k))]) (fun _ i _ => n - (intOf i).toNat)
  case atStart => exact ⟨0, none, 0, 0, by omega, rfl, rfl, rfl, (Sep.nil No w).nilRow _ _⟩
  case round =>
    obtain ⟨k, A, c, m, hk, rfl, rfl, HM, hS⟩ := hrel
    have hY := HPB.out wr hS.below_
    obtain ⟨y0, -, -, -, y4, y5⟩ := fy_cells hY
    rw [HTK.out, HN.out] at y0
    have hm3 : m ≤ k := by rw [← HM.out]; exact blkK_len tk k
    by_cases hlt : k < n
    · obtain ⟨gk, hgk, hkl, z1, z2, z3⟩ := fbool_at (hY.get 1 rfl) (z := k) (by rw [HTK.out, HN.out]; exact hlt)
      rw [hgk] at y0
      have hgd : t.tk[k] = tk.getD k true := by
        rw [List.getD_eq_getElem?_getD, ← HTK.out, List.getElem?_eq_getElem hkl]; rfl
      rw [hgd] at z1
      obtain ⟨b, hb⟩ : ∃ b, tk.getD k true = b := ⟨_, rfl⟩
      rw [hb] at z1
      have hnx : blkK tk (k + 1) = if b = true then blkK tk k else blkStep (blkK tk k) k := by rw [← hb]; rfl
      have HS := hide hS
      clear hY hgk hgd hb hkl
      cases b with
      | true =>
        have HNX := hide (show blkK tk (k + 1) = blkK tk k from hnx)
        clear hnx hS
        go_wp2_with fail
        go_roundw
        case rel => exact ⟨k + 1, A, c, m, by omega, by go_num, rfl, by rw [HNX.out]; exact HM.out, by rw [HNX.out]; exact HS.out⟩
        case measure => simp [intOf]; omega
      | false =>
        replace hnx : blkK tk (k + 1) = blkStep (blkK tk k) k := hnx
        rcases Nat.eq_zero_or_pos m with hm0 | hm0
        · have HNX := hide (show blkK tk (k + 1) = blkK tk k ++ [(k, 1)] from by rw [hnx, List.eq_nil_of_length_eq_zero (HM.out.trans hm0)]; rfl)
          subst hm0
          clear hnx hS
          go_upto_region 7 with fail
          go_quiet (fail)
          go_wp2_with (first
            | (at_builtin
               refine wpList_app1 (cs := #[.int .i64 (k : Int), .int .i64 1]) rfl (.tmp 55) (.tmp 58) 47 rfl (F := No) (W := w) sBk (items := [_]) (HS.out.drewN _) 0 (n := 0) rfl rfl rfl (by simp) rfl rfl (by omega) ?_
               intro A6 c6 w6 hS6 hC6))
          have HF := hide hS6
          clear hS6 hC6 HS y0 y4 y5 z1 z2 z3
          go_wp2_with fail
          exact ⟨⟨k + 1, A6, c6, 1, by omega, by go_num, rfl, by rw [HNX.out, List.length_append, HM.out]; rfl, by rw [HNX.out, bkV_app]; exact HF.out⟩, by simp [intOf]; omega⟩
        · obtain ⟨j, rfl⟩ : ∃ j, m = j + 1 := ⟨m - 1, by omega⟩
          rw [blkStep_last HM.out] at hnx
          obtain ⟨g, hA, hg, hj, e1, e2, e3, e4⟩ := bk_at (hS.get 0 rfl) (k := j) (by omega)
          subst hA
          obtain ⟨⟨ba, bl⟩, hbb⟩ : ∃ b, (blkK tk k)[j] = b := ⟨_, rfl⟩
          have hle := (blkK_ok tk k).2.1 _ (List.getElem_mem hj)
          rw [hbb] at e1 e2 hnx hle
          dsimp only at e1 e2 hnx hle
          have w1 : IntKind.i64.wrap (((j + 1 : Nat) : Int) - 1) = (j : Int) := by rw [wrapF64 _ (by omega) (by omega)]; omega
          have w2 : IntKind.i64.wrap ((ba : Int) + (bl : Int)) = ((ba + bl : Nat) : Int) := by rw [wrapF64 _ (by omega) (by omega)]; omega
          have w3 : IntKind.i64.wrap ((bl : Int) + 1) = ((bl + 1 : Nat) : Int) := by rw [wrapF64 _ (by omega) (by omega)]; omega
          obtain ⟨m, hmm⟩ : ∃ m, j + 1 = m := ⟨_, rfl⟩
          have HMM := hide hmm
          rw [hmm] at w1 HM hm3
          have t1 : decide ((0 : Int) < (m : Int)) = true := by simp; omega
          have t2 : decide (0 < m) = true := by simp; omega
          have t3 : decide ((j : Int) < 0) = false := by simp
          have t4 : decide ((m : Int) ≤ (j : Int)) = false := by simp; omega
          have t5 : decide (m ≤ j) = false := by simp; omega
          have hjm : j < m := by omega
          have hjm2 : (j : Int) < (m : Int) := by omega
          by_cases hj2 : ba + bl = k
          · rw [if_pos hj2] at hnx
            have HNX := hide hnx
            have hset := bkV_set2 (blkK tk k) j (bl + 1) hj
            rw [hbb] at hset
            have HSET := hide hset
            have t6 : (((ba + bl : Nat) : Int) == (k : Int)) = true := by simp [hj2]
            have t7 : ((ba + bl) == k) = true := by simp [hj2]
            have HLE := hide hle
            clear hset hnx hbb hle hmm hS hj2
            go_upto_region 7 with fail
            go_quiet (fail)
            go_wp2_with fail
            have hS6 := (HS.out.drewN nq).store 0 rfl (j * 2 + 1) (.int .i64 ((bl + 1 : Nat) : Int))
            exact ⟨⟨k + 1, some ⟨g, 0, none⟩, c, m, by omega, by go_num, by rw [HMM.out], by rw [HNX.out, List.length_set]; exact HM.out, by rw [HNX.out, HSET.out, ← HMM.out]; exact hS6⟩, by simp [intOf]; omega⟩
          · rw [if_neg hj2] at hnx
            have HNX := hide hnx
            have t6 : (((ba + bl : Nat) : Int) == (k : Int)) = false := by simp; omega
            have t7 : ((ba + bl) == k) = false := by simp [hj2]
            have t8 : ¬ ((ba : Int) + (bl : Int) = (k : Int)) := by omega
            have t9 : (((ba : Int) + (bl : Int)) == (k : Int)) = false := by simp [t8]
            clear hnx hbb hle hmm hS hj2
            go_upto_region 7 with fail
            go_quiet (fail)
            go_wp2_with (first
              | (at_builtin
                 refine wpList_app1 (cs := #[.int .i64 (k : Int), .int .i64 1]) rfl (.tmp 55) (.tmp 58) 47 rfl (F := No) (W := w) sBk (items := [_]) (HS.out.drewN _) 0 (n := j + 1) rfl rfl rfl (by simp) rfl rfl (by omega) ?_
                 intro A6 c6 w6 hS6 hC6))
            have HF := hide hS6
            clear hS6 hC6 HS y0 y4 y5 z1 z2 z3
            go_wp2_with fail
            exact ⟨⟨k + 1, A6, c6, m + 1, by omega, by go_num, by rw [← HMM.out], by rw [HNX.out, List.length_append, HM.out]; rfl, by rw [HNX.out, bkV_app, ← HMM.out]; exact HF.out⟩, by simp [intOf]; omega⟩
    · obtain rfl : k = n := by omega
      have HS := hide hS
      clear hS hY
      go_wp2_with fail
      go_ret
      exact ⟨A, c, by rw [HM.out]; rfl, by rw [HM.out]; exact HS.out⟩
theorem setTk_zero (tk : List Bool) (at_ : Nat) (b : Bool) : setTk tk at_ 0 b = tk := by
  apply List.ext_getElem?
  intro i
  rcases Nat.lt_or_ge i tk.length with h | h
  · unfold setTk
    rw [List.getElem?_map, List.getElem?_range h]
    simp only [Option.map_some]
    rw [if_neg (by omega), List.getD_eq_getElem?_getD, List.getElem?_eq_getElem h]; rfl
  · rw [List.getElem?_eq_none (by rw [setTk_len]; exact h), List.getElem?_eq_none h]
theorem setTk_succ (tk : List Bool) (at_ m : Nat) (b : Bool) (h : at_ + m < tk.length) : (setTk tk at_ m b).set (at_ + m) b = setTk tk at_ (m + 1) b := by
  apply List.ext_getElem?
  intro i
  rcases Nat.lt_or_ge i tk.length with hi | hi
  · rw [List.getElem?_set]
    unfold setTk
    rw [List.getElem?_map, List.getElem?_map, List.getElem?_range hi]
    simp only [Option.map_some]
    split
    · rename_i e
      subst e
      rw [if_pos (by rw [List.length_map, List.length_range]; exact hi), if_pos (by omega)]
    · rename_i e
      by_cases h2 : at_ ≤ i ∧ i < at_ + m
      · rw [if_pos h2, if_pos (by omega)]
      · rw [if_neg h2, if_neg (by omega)]
  · rw [List.getElem?_eq_none (by rw [List.length_set, setTk_len]; exact hi), List.getElem?_eq_none (by rw [setTk_len]; exact hi)]
theorem bools_set (l : List Bool) (k : Nat) (b : Bool) : bools (l.set k b) = (bools l).set k (.bool b) := by unfold bools; rw [List.map_set]
def FyT.set (t : FyT) (at_ n : Nat) (b : Bool) : FyT := { t with tk := setTk t.tk at_ n b }
set_option maxRecDepth 100000 in
set_option maxHeartbeats 4000000 in
theorem fyset_any {F : Nat → Prop} {W0 w : World} {B : Nat} {t : FyT} {x : Item} (h : Sep F W0 w (x :: fyR B t)) {at_ n : Nat} (hfit : at_ + n ≤ t.tk.length) (hn : t.tk.length ≤ 300) (b : Bool) :
    Calls Try.prog 122 #[.pointer (some ⟨B, 0, none⟩), .int .i64 (at_ : Int), .int .i64 (n : Int), .bool b] w fun e w' => (∃ u, e = .returned u) ∧ Sep F W0 w' (x :: fyR B (t.set at_ n b)) := by
  have HS0 := hide (show Sep F W0 w (x :: fyR B (t.set at_ 0 b)) from by unfold FyT.set; rw [setTk_zero]; exact h)
  obtain ⟨N, hN⟩ : ∃ N, t.tk.length = N := ⟨_, rfl⟩
  have HN := hide hN
  rw [hN] at hfit hn
  have w1 : IntKind.i64.wrap ((at_ : Int) + (n : Int)) = ((at_ + n : Nat) : Int) := by rw [wrapF64 _ (by omega) (by omega)]; omega
  clear h hN
  go_enter Try.func122, Try.ntmps122
  go_wp2_with fail
  go_loopw [8] (fun i wr => ∃ (m : Nat), m ≤ n ∧ i = .int .i64 ((at_ + m : Nat) : Int) ∧ Sep F W0 wr (x :: fyR B (t.set at_ m b))) (fun i _ => at_ + n - (intOf i).toNat)
  case atStart => exact ⟨0, by omega, rfl, HS0.out⟩
  case round =>
    clear HS0
    obtain ⟨m, hm, rfl, hS⟩ := hrel
    obtain ⟨y0, -, -, -, y4, y5⟩ := fy_cells (pre := [x]) hS
    have hlen : (t.set at_ m b).tk.length = N := (setTk_len ..).trans HN.out
    rw [hlen] at y0
    by_cases hlt : m < n
    · obtain ⟨gk, hgk, hkl, z1, z2, z3⟩ := fbool_at (hS.get 2 rfl) (z := at_ + m) (by rw [hlen]; omega)
      have hgk2 : t.Ak = some ⟨gk, 0, none⟩ := hgk
      rw [hgk] at y0
      have hrow : (x :: fyR B (t.set at_ m b))[2]? = some (rowI 4 1 (some ⟨gk, 0, none⟩) (t.set at_ m b).tk.length t.ck (bools (t.set at_ m b).tk)) := by
        show some (rowI 4 1 t.Ak _ _ _) = _
        rw [hgk2]; rfl
      have hS2 := hS.store 2 hrow (at_ + m) (.bool b)
      have e : (x :: fyR B (t.set at_ m b)).set 2 (rowI 4 1 (some ⟨gk, 0, none⟩) (t.set at_ m b).tk.length t.ck ((bools (t.set at_ m b).tk).set (at_ + m) (.bool b))) = x :: fyR B (t.set at_ (m + 1) b) := by
        unfold fyR fyC FyT.set
        dsimp only
        rw [← bools_set, setTk_succ _ _ _ _ (by rw [HN.out]; omega), setTk_len, setTk_len, hgk2]
        rfl
      rw [e] at hS2
      have HS2 := hide hS2
      obtain ⟨b0, hb0⟩ : ∃ b0, (t.set at_ m b).tk[at_ + m] = b0 := ⟨_, rfl⟩
      rw [hb0] at z1
      obtain ⟨p, hp⟩ : ∃ p, at_ + m = p := ⟨_, rfl⟩
      have HP := hide hp
      have hpn : p < at_ + n := by omega
      have hpN : p < N := by omega
      have hpN2 : (p : Int) < (N : Int) := by omega
      rw [hp] at HS2 z1 z2
      have e9 : ((at_ + m : Nat) : Int) = (p : Int) := by rw [hp]
      clear hS hlen hgk hgk2 hrow hS2 e hb0 hkl hp
      rw [e9]
      clear e9
      go_wp2_with fail
      go_roundw
      case rel => exact ⟨m + 1, by omega, by have := HP.out; go_num, HS2.out⟩
      case measure => simp [intOf]; omega
    · obtain rfl : m = n := by omega
      have HS := hide hS
      clear hS
      go_wp2_with fail
      go_end0
      exact ⟨⟨_, rfl⟩, HS.out⟩
end Go.Proofs.Ytjphckfbbiehdaa

namespace Go.Proofs.Ytjphckfbbiehdaa
open Go.RowKit
/-- Which of two is less. -/
def cmpZ (a b : Int) : Int := if a < b then -1 else if b < a then 1 else 0
set_option maxHeartbeats 400000 in
theorem frnan_any (x : Int) (w : World) : Calls Try.prog 150 #[.int .i64 x] w fun e w' => e = .returned (.bool false) ∧ w' = w := by
  go_enter Try.func150, Try.ntmps150
  go_wp2_with fail
  go_ret
  exact ⟨by first | rfl | simp, rfl⟩
set_option maxHeartbeats 4000000 in
theorem frcmp_any (x y : Int) (w : World) : Calls Try.prog 92 #[.int .i64 x, .int .i64 y] w fun e w' => e = .returned (.int .i64 (cmpZ x y)) ∧ w' = w := by
  obtain ⟨z, hz⟩ : ∃ z, cmpZ x y = z := ⟨_, rfl⟩
  rw [hz]
  unfold cmpZ at hz
  have CN := frnan_any
  by_cases h1 : x < y
  · have t1 : decide (x < y) = true := by simp [h1]
    rw [if_pos h1] at hz
    subst hz
    go_enter Try.func92, Try.ntmps92
    go_wp2_with (go_at_call 150; refine (CN _ _).mono ?_; rintro e w' ⟨rfl, rfl⟩)
    go_ret
    exact ⟨rfl, rfl⟩
  · have t1 : decide (x < y) = false := by simp only [h1, decide_false]
    rw [if_neg h1] at hz
    by_cases h2 : y < x
    · have t2 : decide (y < x) = true := by simp [h2]
      rw [if_pos h2] at hz
      subst hz
      go_enter Try.func92, Try.ntmps92
      go_wp2_with (go_at_call 150; refine (CN _ _).mono ?_; rintro e w' ⟨rfl, rfl⟩)
      go_ret
      exact ⟨rfl, rfl⟩
    · have t2 : decide (y < x) = false := by simp only [h2, decide_false]
      rw [if_neg h2] at hz
      subst hz
      go_enter Try.func92, Try.ntmps92
      go_wp2_with (go_at_call 150; refine (CN _ _).mono ?_; rintro e w' ⟨rfl, rfl⟩)
      go_ret
      exact ⟨rfl, rfl⟩
theorem cmp_lt (a b : Int) : decide (cmpZ a b < 0) = decide (a < b) := by
  unfold cmpZ
  by_cases h1 : a < b
  · simp [h1]
  · by_cases h2 : b < a <;> simp [h1, h2]
end Go.Proofs.Ytjphckfbbiehdaa

namespace Go.Proofs.Ytjphckfbbiehdaa
open Go.RowKit
theorem bk_addr (g off j : Nat) : (⟨g, off, none⟩ : Addr).add j = ⟨g, off + j, none⟩ := by unfold Addr.add; split <;> simp_all
end Go.Proofs.Ytjphckfbbiehdaa

namespace Go.Proofs.Ytjphckfbbiehdaa
open Go.RowKit
theorem enter_of {f : FuncId} {fn : Func} {c : Code} (hf : Try.prog.funcs[f]? = some fn) (hname : (fn.name == "runtime.NumGoroutine") = false) (hb : fn.body = some c) (args : Array Value) (w : World) : (callFunc f args).run Try.prog w = .ok (.enter f args) w := by
  have h1 : fn.name ≠ "runtime.NumGoroutine" := by simpa using hname
  simp [callFunc, hf, h1, hb]
end Go.Proofs.Ytjphckfbbiehdaa
