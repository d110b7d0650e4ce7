/- slices.Delete of one block out of a row: the call. slices.BinarySearchFunc over blocks: where a place belongs. slices.Insert of one block into a row: what the copies do. -/
import Derived.Test.YtjphckfbbiehdaaSFreePlays5
import Derived.Lib.Overlaps
import Derived.Lib.AppendZerosOnto
set_option linter.unusedSimpArgs false
set_option linter.unusedVariables false
namespace Go.Proofs.Ytjphckfbbiehdaa
open Go.RowKit
set_option maxRecDepth 100000 in
set_option maxHeartbeats 4000000 in
theorem frdelete_any {F : Nat → Prop} {W0 w : World} {items : List Item} (h : Sep F W0 w items) (q : Nat) {g n c i : Nat} {l : List Bk} (hq : items[q]? = some (rowI 231 2 (some ⟨g, 0, none⟩) n c (bkV l))) (hi : i < n) (hn : n ≤ 1000) :
    Calls Try.prog 118 #[.slice (some ⟨g, 0, none⟩) n c, .int .i64 (i : Int), .int .i64 ((i : Int) + 1)] w fun e w' => e = .returned (.slice (some ⟨g, 0, none⟩) (n - 1) c) ∧ Sep F W0 w' (items.set q (rowI 231 2 (some ⟨g, 0, none⟩) (n - 1) c (bkV (l.eraseIdx i)))) := by
  have hS := h.drew
  obtain ⟨X1, X2, h1, h2, h3, h4⟩ := row_delete (hS.get q hq) hi
  have HF := hide (hS.step q hq (h4.mono (fun k hk => .inl (by subst hk; rfl))) _ h3 (fun g hg => .inl hg))
  obtain ⟨cur, _, hnc, hcm, _, _, _⟩ := row_open (hS.get q hq)
  have hcm2 : c ≤ 9223372036854775807 := by simpa [maxLen] using hcm
  have hmx : Try.prog.follows .mixedOrders = true := by kernel_rfl
  have w1 : IntKind.i64.wrap ((i : Int) + 1) = (i : Int) + 1 := wrapF64 _ (by omega) (by omega)
  obtain ⟨j, hj⟩ : ∃ j : Nat, j = i + 1 := ⟨_, rfl⟩
  have hjz : (i : Int) + 1 = (j : Int) := by omega
  rw [hjz] at w1 ⊢
  have t1 : ((i : Int) == (j : Int)) = false := by rw [beq_eq_false_iff_ne]; omega
  have t2 : decide ((i : Int) = (j : Int)) = false := by rw [decide_eq_false_iff_not]; omega
  have i2 : (j : Int) ≤ (n : Int) := by omega
  have i2' : j ≤ n := by omega
  have i3 : (i : Int) ≤ (j : Int) := by omega
  have i3' : i ≤ j := by omega
  have i4 : (i : Int) ≤ (n : Int) := by omega
  have i4' : i ≤ n := by omega
  have i5 : (n : Int) ≤ (c : Int) := by omega
  have i7 : (i : Int) ≤ (c : Int) := by omega
  have i8 : i ≤ c := by omega
  have i9 : j ≤ c := by omega
  have i6 : i + (n - j) = n - 1 := by omega
  rw [← hj] at h1
  have i10 : ¬ n = i := by omega
  have i11 : n - j ≤ c - j := by omega
  have j1 : j - i = 1 := by omega
  have i13 : ¬ c = i := by omega
  obtain ⟨m, hm⟩ : ∃ m, m = n - 1 := ⟨_, rfl⟩
  rw [← hm] at h2 i6 HF ⊢
  have k1 : n - m = 1 := by omega
  have k2 : ¬ c = m := by omega
  have k3 : m ≤ c := by omega
  have k4 : m ≤ n := by omega
  have k5 : (m : Int) ≤ (n : Int) := by omega
  rw [i6] at h1
  have hor : (c = j ∧ n = c ∧ i = m) ∨ ¬ c = j := by omega
  clear h hS hq h3 h4 hjz hj hi hm
  rcases hor with ⟨rfl, rfl, rfl⟩ | hcj
  · rw [if_pos rfl] at h1
    simp only [Nat.sub_self] at h1
    simp only [k1] at h2
    have H1 := hide h1
    clear h1
    go_enter Try.func118, Try.ntmps118
    go_wp2_with fail
    go_still_tail 6, hmx
    go_wp2_with (first
      | (at_builtin
         refine wpList_apr rfl (.tmp 22) (.tmp 25) 47 rfl rfl rfl H1.out ?_))
    refine bodyPost_ret (v := .slice (some ⟨g, 0, none⟩) i n) (by simp [results, Try.results118, go_sem]) rfl ⟨rfl, HF.out⟩
  · rw [if_neg hcj] at h1
    have H1 := hide h1
    clear h1
    go_enter Try.func118, Try.ntmps118
    go_wp2_with fail
    go_still_tail 6, hmx
    go_wp2_with (first
      | (at_builtin
         refine wpList_apr rfl (.tmp 22) (.tmp 25) 47 rfl rfl rfl H1.out ?_))
    refine bodyPost_ret (v := .slice (some ⟨g, 0, none⟩) m c) (by simp [results, Try.results118, go_sem]) rfl ⟨rfl, HF.out⟩
end Go.Proofs.Ytjphckfbbiehdaa

namespace Go.Proofs.Ytjphckfbbiehdaa
open Go.RowKit
/-- Which of two is less. -/
def cmpZ (a b : Int) : Int := if a < b then -1 else if b < a then 1 else 0
set_option maxHeartbeats 400000 in
theorem frnan_any (x : Int) (w : World) : Calls Try.prog 150 #[.int .i64 x] w fun e w' => e = .returned (.bool false) ∧ w' = w := by
  go_enter Try.func150, Try.ntmps150
  go_wp2_with fail
  go_ret
  exact ⟨by first | rfl | simp, rfl⟩
set_option maxHeartbeats 4000000 in
theorem frcmp_any (x y : Int) (w : World) : Calls Try.prog 92 #[.int .i64 x, .int .i64 y] w fun e w' => e = .returned (.int .i64 (cmpZ x y)) ∧ w' = w := by
  obtain ⟨z, hz⟩ : ∃ z, cmpZ x y = z := ⟨_, rfl⟩
  rw [hz]
  unfold cmpZ at hz
  have CN := frnan_any
  by_cases h1 : x < y
  · have t1 : decide (x < y) = true := by simp [h1]
    rw [if_pos h1] at hz
    subst hz
    go_enter Try.func92, Try.ntmps92
    go_wp2_with (go_at_call 150; refine (CN _ _).mono ?_; rintro e w' ⟨rfl, rfl⟩)
    go_ret
    exact ⟨rfl, rfl⟩
  · have t1 : decide (x < y) = false := by simp only [h1, decide_false]
    rw [if_neg h1] at hz
    by_cases h2 : y < x
    · have t2 : decide (y < x) = true := by simp [h2]
      rw [if_pos h2] at hz
      subst hz
      go_enter Try.func92, Try.ntmps92
      go_wp2_with (go_at_call 150; refine (CN _ _).mono ?_; rintro e w' ⟨rfl, rfl⟩)
      go_ret
      exact ⟨rfl, rfl⟩
    · have t2 : decide (y < x) = false := by simp only [h2, decide_false]
      rw [if_neg h2] at hz
      subst hz
      go_enter Try.func92, Try.ntmps92
      go_wp2_with (go_at_call 150; refine (CN _ _).mono ?_; rintro e w' ⟨rfl, rfl⟩)
      go_ret
      exact ⟨rfl, rfl⟩
set_option maxHeartbeats 1000000 in
theorem give1_any (w : World) (a n x : Int) : Calls Try.prog 120 #[.agg #[.int .i64 a, .int .i64 n], .int .i64 x] w fun e w' => e = .returned (.int .i64 (cmpZ a x)) ∧ Below w.heap.size w w' := by
  have C := frcmp_any a x
  go_enter Try.func120, Try.ntmps120
  go_wp2_with (go_at_call 92; refine (C _).mono ?_; rintro e w' ⟨rfl, rfl⟩)
  go_ret
  exact ⟨rfl, by first | exact (Chg.alloc (Chg.refl No w) _).below (fun _ h => h.elim) | exact ((Chg.alloc (Chg.refl No w) _).setCell (.inr (Nat.le_refl _)) _).below (fun _ h => h.elim)⟩
theorem cmp_lt (a b : Int) : decide (cmpZ a b < 0) = decide (a < b) := by
  unfold cmpZ
  by_cases h1 : a < b
  · simp [h1]
  · by_cases h2 : b < a <;> simp [h1, h2]
set_option maxRecDepth 100000 in
set_option maxHeartbeats 8000000 in
/-- Where a place belongs: so many lie below it. -/
theorem frsearch_any (w : World) (A : Option Addr) (n c idx at_ : Nat) (l : List Bk) (hn : n ≤ 1000) (h : Rd w (fun _ => True) 2 A n (bkV l)) (hidx : idx ≤ n) (hlo : ∀ j b, j < idx → l[j]? = some b → b.1 < at_) (hhi : ∀ j b, idx ≤ j → l[j]? = some b → at_ ≤ b.1) :
    Calls Try.prog 119 #[.slice A n c, .int .i64 (at_ : Int), .func (.func 120) #[] #[]] w fun e w' => (∃ b : Bool, e = .returned (.tuple #[.int .i64 (idx : Int), .bool b])) ∧ Below w.heap.size w w' := by
  have HL := hide (show l.length = n by have := h.1; rw [bkV_length] at this; omega)
  have HLO := hide hlo
  have HHI := hide hhi
  clear hlo hhi
  go_enter Try.func119, Try.ntmps119
  go_wp2_with fail
  go_loopw [9, 10] (fun s9 s10 wr => ∃ lo hi : Nat, lo ≤ idx ∧ idx ≤ hi ∧ hi ≤ n ∧ s9 = .int .i64 lo ∧ s10 = .int .i64 hi ∧ Below w.heap.size w wr) (fun s9 s10 _ => (intOf s10).toNat - (intOf s9).toNat)
  case atStart => exact ⟨0, n, by omega, by omega, by omega, rfl, rfl, Below.refl _ _⟩
  case round =>
    obtain ⟨lo, hi, h1, h2, h3, rfl, rfl, hb⟩ := hrel
    by_cases hlt : lo < hi
    · have hb1 : (lo : Int) + hi ≤ 2000 := by omega
      have hml : (lo + hi) / 2 < n := by omega
      have hkl : (lo + hi) / 2 < l.length := by rw [HL.out]; exact hml
      obtain ⟨v0, v1⟩ := bkV_at l ((lo + hi) / 2) hkl
      obtain ⟨ad, hA, _, had, hc, hd⟩ := (h.below hb).atN hml
      have e0 := hc _ v0
      have e1 := hd 0 _ v1
      have hy1 : l[(lo + hi) / 2]? = some l[(lo + hi) / 2] := List.getElem?_eq_getElem hkl
      obtain ⟨y, hy⟩ : ∃ y, l[(lo + hi) / 2] = y := ⟨_, rfl⟩
      rw [hy] at e0 e1 hy1
      obtain ⟨yN, mN⟩ := y
      dsimp only at e0 e1 hy1
      subst hA
      have hz := cmp_lt (yN : Int) (at_ : Int)
      have hlx : decide ((yN : Int) < (at_ : Int)) = decide ((lo + hi) / 2 < idx) := by
        by_cases h5 : (lo + hi) / 2 < idx
        · have h6 := HLO.out _ _ h5 hy1
          dsimp only at h6
          simp [h5]; exact h6
        · have h6 := HHI.out _ _ (Nat.le_of_not_lt h5) hy1
          dsimp only at h6
          simp [h5]; omega
      rw [hlx] at hz
      have C := hide (give1_any wr (yN : Int) (mN : Int) (at_ : Int))
      obtain ⟨z, hz0⟩ : ∃ z, cmpZ (yN : Int) (at_ : Int) = z := ⟨_, rfl⟩
      rw [hz0] at C hz
      have HB := hide hb
      clear hc hd v0 v1 hy hy1 hkl hz0 hlx hb h had
      by_cases hlt2 : (lo + hi) / 2 < idx
      · simp only [hlt2, decide_true] at hz
        go_wp2_with (go_at_call 120; refine C.out.mono ?_; rintro e w1 ⟨rfl, hB1⟩)
        go_roundw
        case rel => exact ⟨(lo + hi) / 2 + 1, hi, by omega, by omega, by omega, by first | go_num | (congr 1; omega), rfl, HB.out.trans (hB1.mono HB.out.size)⟩
        case measure => simp [intOf]; omega
      · simp only [hlt2, decide_false] at hz
        go_wp2_with (go_at_call 120; refine C.out.mono ?_; rintro e w1 ⟨rfl, hB1⟩)
        go_roundw
        case rel => exact ⟨lo, (lo + hi) / 2, by omega, by omega, by omega, rfl, by first | go_num | (congr 1; omega), HB.out.trans (hB1.mono HB.out.size)⟩
        case measure => simp [intOf]; omega
    · obtain rfl : lo = idx := by omega
      obtain rfl : hi = lo := by omega
      by_cases hin : hi < n
      · have hkl : hi < l.length := by rw [HL.out]; exact hin
        obtain ⟨v0, v1⟩ := bkV_at l hi hkl
        obtain ⟨ad, hA, _, had, hc, hd⟩ := (h.below hb).atN hin
        have e0 := hc _ v0
        have e1 := hd 0 _ v1
        obtain ⟨y, hy⟩ : ∃ y, l[hi] = y := ⟨_, rfl⟩
        rw [hy] at e0 e1
        obtain ⟨yN, mN⟩ := y
        dsimp only at e0 e1
        subst hA
        have C := hide (give1_any wr (yN : Int) (mN : Int) (at_ : Int))
        obtain ⟨z, hz0⟩ : ∃ z, cmpZ (yN : Int) (at_ : Int) = z := ⟨_, rfl⟩
        rw [hz0] at C
        have HB := hide hb
        clear hc hd v0 v1 hy hkl hz0 hb h had
        go_wp2_with (go_at_call 120; refine C.out.mono ?_; rintro e w1 ⟨rfl, hB1⟩)
        refine bodyPost_ret (v := .tuple #[.int .i64 hi, .bool (z == 0)]) (by simp [results, Try.results119, go_sem]) rfl ⟨⟨_, rfl⟩, HB.out.trans (hB1.mono HB.out.size)⟩
      · obtain rfl : hi = n := by omega
        have HB := hide hb
        clear hb h
        go_wp2_with fail
        refine bodyPost_ret (v := .tuple #[.int .i64 hi, .bool false]) (by simp [results, Try.results119, go_sem]) rfl ⟨⟨_, rfl⟩, HB.out⟩
end Go.Proofs.Ytjphckfbbiehdaa

namespace Go.Proofs.Ytjphckfbbiehdaa
open Go.RowKit
theorem copy_bk (w : World) (ty : TypeId) (g o dLen dCap : Nat) (a : Addr) (sLen sCap : Nat) (cur : Array Value) (cs : List Value) (k : Nat)
    (hg : w.heap[g]? = some (.cells cur 231 (0, 0))) (hk : k = Nat.min sLen dLen) (hn : cs.length = k * 2)
    (hsrc : ∀ j v, cs[j]? = some v → w.cell? (a.add j) = some v) (hfit : o + cs.length ≤ cur.size) (h1 : ∀ v ∈ cs, v.oneCell' = true) :
    (Builtin.copy_ #[47, 47] ty #[.slice (some ⟨g, o, none⟩) dLen dCap, .slice (some a) sLen sCap]).run Try.prog w =
      .ok (goInt k) (w.setRow g (cur.toList.take o ++ cs ++ cur.toList.drop (o + cs.length)).toArray) := by
  have hl := run_loadCells_list (P := Try.prog) w a cs hsrc
  have hst := run_storeCells_at Try.prog g o 231 cs 0 cur w hg (by simpa using hfit) h1
  obtain ⟨i, hq, hi⟩ := bkInfo
  rw [hn] at hl
  simp [Builtin.copy_, run_underlying und_bk, Builtin.lenOf, Builtin.firstCells, sizeOf, typeInfo, hq, hi, ← hk, hl, hst]
theorem insertIdx_td {α : Type} (l : List α) (i : Nat) (b : α) (hi : i ≤ l.length) : l.insertIdx i b = l.take i ++ b :: l.drop i := by
  induction l generalizing i with
  | nil => cases i with
    | zero => rfl
    | succ i => simp at hi
  | cons a l ih => cases i with
    | zero => rfl
    | succ i => rw [List.insertIdx_succ_cons, ih i (by simpa using hi)]; rfl
theorem bkV_insert (l : List Bk) (i : Nat) (b : Bk) (hi : i ≤ l.length) : bkV (l.insertIdx i b) = (bkV l).take (i * 2) ++ [.int .i64 (b.1 : Int), .int .i64 (b.2 : Int)] ++ (bkV l).drop (i * 2) := by
  rw [insertIdx_td l i b hi, ← bkV_take, ← bkV_drop, show l.take i ++ b :: l.drop i = l.take i ++ ([b] ++ l.drop i) from rfl, bkV_append, bkV_append, ← List.append_assoc]
  rfl
theorem bk_addr (g off j : Nat) : (⟨g, off, none⟩ : Addr).add j = ⟨g, off + j, none⟩ := by unfold Addr.add; split <;> simp_all
theorem lay_two (C cs vs : List Value) (I J : Nat) (hJ : J = I + vs.length) (hC : J ≤ C.length) : (((C.take J ++ cs ++ C.drop (J + cs.length)).take I ++ vs) ++ (C.take J ++ cs ++ C.drop (J + cs.length)).drop (I + vs.length)).take (I + vs.length + cs.length) = C.take I ++ vs ++ cs := by
  have e1 : (C.take J).length = J := by rw [List.length_take]; omega
  have e2 : (C.take I).length = I := by rw [List.length_take]; omega
  have t1 : (C.take J ++ cs ++ C.drop (J + cs.length)).take I = C.take I := by
    rw [List.append_assoc, List.take_append_of_le_length (by omega), List.take_take, Nat.min_eq_left (by omega)]
  have t2 : (C.take J ++ cs ++ C.drop (J + cs.length)).drop J = cs ++ C.drop (J + cs.length) := by
    rw [List.append_assoc]; exact List.drop_left' e1
  rw [← hJ, t1, t2, ← List.append_assoc]
  refine List.take_left' ?_
  rw [List.length_append, List.length_append, e2]
  omega
/-- There is room: those from there on go one place up, then the new one is laid in. -/
theorem row_insert {w : World} {g gv n c i N J : Nat} {l : List Bk} {b : Bk} (h : (rowI 231 2 (some ⟨g, 0, none⟩) n c (bkV l)).P w) (hi : i < n) (hN : N = n + 1) (hJ : J = i + 1) (hroom : N ≤ c) (hgv : gv ≠ g)
    (hv : ∀ j u, [Value.int .i64 (b.1 : Int), .int .i64 (b.2 : Int)][j]? = some u → w.cell? ((⟨gv, 0, none⟩ : Addr).add j) = some u) :
    ∃ X1 X2, (∀ ty dc sc, (Builtin.copy_ #[47, 47] ty #[.slice (some ⟨g, J * 2, none⟩) (N - J) dc, .slice (some ⟨g, i * 2, none⟩) (N - i) sc]).run Try.prog w.drew = .ok (goInt ((N - J : Nat) : Int)) X1) ∧
      (∀ ty dc, (Builtin.copy_ #[47, 47] ty #[.slice (some ⟨g, i * 2, none⟩) (N - i) dc, .slice (some ⟨gv, 0, none⟩) 1 1]).run Try.prog X1 = .ok (goInt 1) X2) ∧
      (rowI 231 2 (some ⟨g, 0, none⟩) N c (bkV (l.insertIdx i b))).P X2 ∧ Chg (fun k => k = g) w X2 := by
  obtain ⟨cur, hh, hn, hc, hs, ht, hl⟩ := row_open h
  have hll : l.length = n := by rw [bkV_length] at hl; omega
  have hcell : ∀ j u, (bkV l)[j]? = some u → w.drew.cell? ⟨g, j, none⟩ = some u := fun j u hu => by
    rw [World.cell?_drew, cell_of_row w g j cur _ (0, 0) hh]
    rw [← ht, List.getElem?_take] at hu
    split at hu
    · simpa using hu
    · cases hu
  obtain ⟨cs, hcs⟩ : ∃ cs, cs = (bkV l).drop (i * 2) := ⟨_, rfl⟩
  have hcl : cs.length = (N - J) * 2 := by rw [hcs, List.length_drop, hl]; omega
  obtain ⟨cur1, hc1⟩ : ∃ c1, c1 = (cur.toList.take (J * 2) ++ cs ++ cur.toList.drop (J * 2 + cs.length)).toArray := ⟨_, rfl⟩
  have hs1 : cur1.size = c * 2 := by
    rw [hc1]
    simp only [List.size_toArray, List.length_append, List.length_take, List.length_drop, Array.length_toList]
    omega
  obtain ⟨vs, hvs⟩ : ∃ vs : List Value, vs = [Value.int .i64 (b.1 : Int), .int .i64 (b.2 : Int)] := ⟨_, rfl⟩
  have hvl : vs.length = 2 := by rw [hvs]; rfl
  obtain ⟨cur2, hc2⟩ : ∃ c2, c2 = (cur1.toList.take (i * 2) ++ vs ++ cur1.toList.drop (i * 2 + vs.length)).toArray := ⟨_, rfl⟩
  have hs2 : cur2.size = c * 2 := by
    rw [hc2]
    simp only [List.size_toArray, List.length_append, List.length_take, List.length_drop, Array.length_toList]
    omega
  have hh1 : (w.drew.setRow g cur1).heap[g]? = some (.cells cur1 231 (0, 0)) := setRow_heap w.drew g cur cur1 _ _ hh
  have hh2 : ((w.drew.setRow g cur1).setRow g cur2).heap[g]? = some (.cells cur2 231 (0, 0)) := setRow_heap _ g cur1 cur2 _ _ hh1
  refine ⟨w.drew.setRow g cur1, (w.drew.setRow g cur1).setRow g cur2, fun ty dc sc => ?_, fun ty dc => ?_, row_shut hh2 hroom hc hs2 ?_, ?_⟩
  · rw [hc1]
    refine copy_bk w.drew ty g (J * 2) (N - J) dc ⟨g, i * 2, none⟩ (N - i) sc cur cs (N - J) hh (by simp only [Nat.min_def]; split <;> omega) hcl (fun j u hu => ?_) (by omega) (fun u hu => bkV_one l u (List.mem_of_mem_drop (by rw [← hcs]; exact hu)))
    rw [bk_addr]
    rw [hcs, List.getElem?_drop] at hu
    exact hcell _ _ hu
  · rw [hc2]
    refine copy_bk _ ty g (i * 2) (N - i) dc ⟨gv, 0, none⟩ 1 1 cur1 vs 1 hh1 (by simp only [Nat.min_def]; split <;> omega) (by omega) (fun j u hu => ?_) (by omega) (fun u hu => ?_)
    · rw [hvs] at hu
      have h1 := hv j u hu
      rw [bk_addr, Nat.zero_add] at h1 ⊢
      rw [← h1]
      unfold World.cell?
      rw [setRow_other w.drew g gv cur1 hgv]
      rfl
    · rw [hvs] at hu
      rcases List.mem_cons.1 hu with rfl | hu
      · rfl
      · rw [List.mem_singleton.1 hu]; rfl
  · rw [bkV_insert l i b (by omega), ← hvs, ← hcs, hc2, hc1]
    have e1 : (bkV l).take (i * 2) = cur.toList.take (i * 2) := by rw [← ht, List.take_take]; congr 1; omega
    rw [e1, show N * 2 = i * 2 + vs.length + cs.length by omega]
    exact lay_two cur.toList cs vs (i * 2) (J * 2) (by omega) (by rw [Array.length_toList]; omega)
  · have hC1 : Chg (fun k => k = g) w w.drew := (Chg.refl _ w).drew
    exact (hC1.trans (chg_row cur1 hh) (fun k hk => .inl hk)).trans (chg_row cur2 hh1) (fun k hk => .inl hk)
/-- No room: a new row is made; the first ones, the new one, the others are laid in. -/
theorem row_insert_new {w : World} {g gv n c i N J K : Nat} {l : List Bk} {b : Bk} (h : (rowI 231 2 (some ⟨g, 0, none⟩) n c (bkV l)).P w) (hi : i < n) (hn1 : n ≤ 1000) (hN : N = n + 1) (hJ : J = i + 1) (hK : K = N - i) (hroom : c < N) (hgv : gv < w.heap.size)
    (hv : ∀ j u, [Value.int .i64 (b.1 : Int), .int .i64 (b.2 : Int)][j]? = some u → w.cell? ((⟨gv, 0, none⟩ : Addr).add j) = some u) :
    ∃ G X1 X2 X3, (∀ ty, (Builtin.append_ #[47, 3] ty #[.slice (some ⟨g, 0, none⟩) i c, .int .i64 (K : Int)]).run Try.prog w = .ok (.slice (some ⟨w.heap.size, 0, none⟩) N G) X1) ∧
      (∀ ty dc, (Builtin.copy_ #[47, 47] ty #[.slice (some ⟨w.heap.size, i * 2, none⟩) (N - i) dc, .slice (some ⟨gv, 0, none⟩) 1 1]).run Try.prog X1 = .ok (goInt 1) X2) ∧
      (∀ ty dc sc, (Builtin.copy_ #[47, 47] ty #[.slice (some ⟨w.heap.size, J * 2, none⟩) (N - J) dc, .slice (some ⟨g, i * 2, none⟩) (n - i) sc]).run Try.prog X2.drew = .ok (goInt ((N - J : Nat) : Int)) X3) ∧
      (rowI 231 2 (some ⟨w.heap.size, 0, none⟩) N G (bkV (l.insertIdx i b))).P X3 ∧ Chg (fun k => k = g) w X3 ∧ N ≤ G ∧ G ≤ 9223372036854775807 := by
  obtain ⟨cur, hh, hn, hc, hs, ht, hl⟩ := row_open h
  have hll : l.length = n := by rw [bkV_length] at hl; omega
  have hgw : g < w.heap.size := (Array.getElem?_eq_some_iff.1 hh).1
  obtain ⟨I, z, hI, hz, hI2, hby, hzs⟩ := sBk.info
  have hcell : ∀ (W : World), W.heap[g]? = w.heap[g]? → ∀ j u, (bkV l)[j]? = some u → W.cell? ⟨g, j, none⟩ = some u := fun W hW j u hu => by
    rw [cell_of_row W g j cur _ (0, 0) (hW.trans hh)]
    rw [← ht, List.getElem?_take] at hu
    split at hu
    · simpa using hu
    · cases hu
  have hold : (Builtin.firstCells I.size i (.slice (some ⟨g, 0, none⟩) i c)).run Try.prog w.drew = .ok ((bkV l).take (i * 2)).toArray w.drew := by
    rw [hI2]
    exact run_firstCells_some w.drew 2 i ⟨g, 0, none⟩ i c ((bkV l).take (i * 2)) (by rw [List.length_take]; omega) (fun j u hu => by
      rw [bk_addr, Nat.zero_add]
      rw [List.getElem?_take] at hu
      split at hu
      · exact hcell _ rfl j u hu
      · cases hu)
  have hcn : c = n := by omega
  have hik : i + K = N := by omega
  have hrz := fun ty => Lib.run_append_grow_zeros w 47 3 ty 231 I z .i64 .i64 und_bk Try.underlying3 hI hz (some ⟨g, 0, none⟩) i c ((bkV l).take (i * 2)) hold K (by omega) (by omega) (by omega) (by omega) (by rw [hby]; omega) (by rw [hby, hik]; exact growslice_fits (by omega) (by omega))
  rw [hik] at hrz
  obtain ⟨G, hG⟩ : ∃ G, G = grownCap w N c 231 := ⟨_, rfl⟩
  rw [← hG] at hrz
  have hGn : N ≤ G := by rw [hG]; exact grownCap_ge w _ _ _
  have hGm : G ≤ maxLen := by rw [hG]; exact grownCap_le_maxLen w N c _ (by unfold maxLen; omega)
  obtain ⟨ROW, hROW⟩ : ∃ ROW : Array Value, ROW = ((bkV l).take (i * 2)).toArray ++ Builtin.zeroCells z.cells K ++ Builtin.zeroCells z.cells (G - N) := ⟨_, rfl⟩
  rw [← hROW] at hrz
  have hRl : ROW.size = G * 2 := by
    rw [hROW]
    simp only [Array.size_append, List.size_toArray, size_zeroCells, hzs, List.length_take, hl]
    omega
  have hRt : ROW.toList.take (i * 2) = (bkV l).take (i * 2) := by
    rw [hROW]
    simp only [Array.toList_append, List.append_assoc]
    exact List.take_left' (by rw [List.length_take]; omega)
  obtain ⟨vs, hvs⟩ : ∃ vs : List Value, vs = [Value.int .i64 (b.1 : Int), .int .i64 (b.2 : Int)] := ⟨_, rfl⟩
  have hvl : vs.length = 2 := by rw [hvs]; rfl
  obtain ⟨cs, hcs⟩ : ∃ cs, cs = (bkV l).drop (i * 2) := ⟨_, rfl⟩
  have hcl : cs.length = (N - J) * 2 := by rw [hcs, List.length_drop, hl]; omega
  obtain ⟨cur1, hc1⟩ : ∃ c1, c1 = (ROW.toList.take (i * 2) ++ vs ++ ROW.toList.drop (i * 2 + vs.length)).toArray := ⟨_, rfl⟩
  have hs1 : cur1.size = G * 2 := by
    rw [hc1]
    simp only [List.size_toArray, List.length_append, List.length_take, List.length_drop, Array.length_toList]
    omega
  obtain ⟨cur2, hc2⟩ : ∃ c2, c2 = (cur1.toList.take (J * 2) ++ cs ++ cur1.toList.drop (J * 2 + cs.length)).toArray := ⟨_, rfl⟩
  have hs2 : cur2.size = G * 2 := by
    rw [hc2]
    simp only [List.size_toArray, List.length_append, List.length_take, List.length_drop, Array.length_toList]
    omega
  obtain ⟨X1, hX1⟩ : ∃ X1, X1 = w.drew.alloc (.cells ROW 231) := ⟨_, rfl⟩
  have hh0 : X1.heap[w.heap.size]? = some (.cells ROW 231 (0, 0)) := by rw [hX1]; exact heap_alloc_new w.drew _
  have hCa : Chg (fun k => k = g) w X1 := by rw [hX1]; exact (Chg.refl _ w).drew.alloc _
  have hold1 : ∀ k, k < w.heap.size → X1.heap[k]? = w.heap[k]? := fun k hk => by
    have h0 : Chg No w X1 := by rw [hX1]; exact (Chg.refl _ w).drew.alloc _
    exact h0.block k hk (fun h => h)
  have hh1 : (X1.setRow w.heap.size cur1).heap[w.heap.size]? = some (.cells cur1 231 (0, 0)) := setRow_heap X1 _ ROW cur1 _ _ hh0
  have hh2 : ((X1.setRow w.heap.size cur1).drew.setRow w.heap.size cur2).heap[w.heap.size]? = some (.cells cur2 231 (0, 0)) := setRow_heap (X1.setRow w.heap.size cur1).drew _ cur1 cur2 _ _ hh1
  have hN : ∀ (W : World) (cs : Array Value), ∀ {cc : Array Value}, W.heap[w.heap.size]? = some (.cells cc 231 (0, 0)) → Chg (fun k => w.heap.size ≤ k) W (W.setRow w.heap.size cs) := fun W cs cc hW => (chg_row cs hW).mono (fun k hk => .inl (by rw [hk]; exact Nat.le_refl _))
  refine ⟨G, X1, X1.setRow w.heap.size cur1, (X1.setRow w.heap.size cur1).drew.setRow w.heap.size cur2, fun ty => by rw [hX1]; exact hrz ty, fun ty dc => ?_, fun ty dc sc => ?_, row_shut hh2 hGn hGm hs2 ?_, ?_, hGn, by simpa [maxLen] using hGm⟩
  · rw [hc1]
    refine copy_bk _ ty w.heap.size (i * 2) (N - i) dc ⟨gv, 0, none⟩ 1 1 ROW vs 1 hh0 (by simp only [Nat.min_def]; split <;> omega) (by omega) (fun j u hu => ?_) (by omega) (fun u hu => ?_)
    · rw [hvs] at hu
      have h1 := hv j u hu
      rw [bk_addr, Nat.zero_add] at h1 ⊢
      rw [← h1]
      unfold World.cell?
      rw [hold1 gv hgv]
    · rw [hvs] at hu
      rcases List.mem_cons.1 hu with rfl | hu
      · rfl
      · rw [List.mem_singleton.1 hu]; rfl
  · rw [hc2]
    refine copy_bk _ ty w.heap.size (J * 2) (N - J) dc ⟨g, i * 2, none⟩ (n - i) sc cur1 cs (N - J) hh1 (by simp only [Nat.min_def]; split <;> omega) hcl (fun j u hu => ?_) (by omega) (fun u hu => bkV_one l u (List.mem_of_mem_drop (by rw [← hcs]; exact hu)))
    rw [bk_addr]
    rw [hcs, List.getElem?_drop] at hu
    refine hcell _ ?_ _ _ hu
    exact (setRow_other X1 w.heap.size g cur1 (by omega)).trans (hold1 g hgw)
  · rw [bkV_insert l i b (by omega), ← hvs, ← hcs, hc2, hc1, ← hRt]
    have f1 : (ROW.toList.take (i * 2) ++ vs).length = J * 2 := by rw [List.length_append, hvl, List.length_take, Array.length_toList]; omega
    show ((ROW.toList.take (i * 2) ++ vs ++ _ : List Value).take (J * 2) ++ cs ++ _).take (N * 2) = _
    rw [List.take_left' f1]
    refine List.take_left' ?_
    rw [List.length_append, f1, hcl]
    omega
  · have h1 : Chg (fun k => k = g) w (X1.setRow w.heap.size cur1) := hCa.trans (hN X1 cur1 hh0) (fun k hk => .inr hk)
    exact h1.drew.trans (hN _ cur2 hh1) (fun k hk => .inr hk)
end Go.Proofs.Ytjphckfbbiehdaa
