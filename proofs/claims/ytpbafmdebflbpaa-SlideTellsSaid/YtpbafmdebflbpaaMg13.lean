/- Marks: an arena's words with given marks; the plain part. Marks: Bit, Set, the fields at a place, Cleared. Marks: Cleared. -/
import Derived.Test.YtpbafmdebflbpaaMg12
import Derived.Test.YtpbafmdebflbpaaMg7
import Derived.Deep.Cut
import Derived.Deep.RegionLaw
namespace Go.Proofs.Ytpbafmdebflbpaa
open Go.RowKit

theorem own_addr {w : World} {b e size n c : Nat} {A : Option Addr} {xs : List Value} (h : w.ownsRow b e size (.slice A n c) n xs) (hn : 0 < n) : ∃ g, A = some ⟨g, 0, none⟩ := by
  rcases h.2 with ⟨hv, _⟩ | ⟨g, cap, cur, hv, _⟩
  · injection hv with _ h1 _; omega
  · injection hv with h1 _ _; exact ⟨g, h1⟩
theorem own_cap {w : World} {b e size n c : Nat} {A : Option Addr} {xs : List Value} (h : w.ownsRow b e size (.slice A n c) n xs) : n ≤ c ∧ c ≤ 9223372036854775807 := by
  rcases h.2 with ⟨hv, hn⟩ | ⟨g, cap, cur, hv, _, _, h1, h2, _⟩
  · injection hv with _ h1 h2; omega
  · injection hv with _ _ h3; subst h3; simp only [maxLen] at h2; omega
theorem getD_get_ {d : List Int} {k : Nat} (h : k < d.length) : d.getD k 0 = d[k] := by rw [List.getD_eq_getElem?_getD, List.getElem?_eq_getElem h]; rfl
theorem set_mid_ {α : Type} (U V : List α) (x y : α) : (U ++ x :: V).set U.length y = U ++ y :: V := by simp
theorem flatMap_congr_ {α β : Type} {l : List α} {f g : α → List β} (h : ∀ a ∈ l, f a = g a) : l.flatMap f = l.flatMap g := by
  induction l with
  | nil => rfl
  | cons a l ih => rw [List.flatMap_cons, List.flatMap_cons, h a (by simp), ih (fun b hb => h b (by simp [hb]))]
theorem flatMap_range (ws : List Int) (pre : List (Nat × Nat)) : (pre.flatMap fun p => ws.getD p.1 0 :: fieldsAt ws p) = (List.range pre.length).flatMap fun i => ws.getD (pre.getD i (0, 0)).1 0 :: (ws.drop ((pre.getD i (0, 0)).1 + 1)).take (pre.getD i (0, 0)).2 := by
  have h : pre = (List.range pre.length).map fun i => pre.getD i (0, 0) := by
    refine List.ext_getElem (by simp) fun k h1 h2 => ?_
    simp [List.getD_eq_getElem?_getD, List.getElem?_eq_getElem h1]
  conv => lhs; rw [h]
  rw [List.flatMap_map]
  rfl

theorem mark_table : (List.range 8).all (fun a => (List.range 5).all fun l =>
    bits BinOp.or IntKind.u64 (headW (l : Int) false a) 256 == headW l true a && bits BinOp.or IntKind.u64 (headW (l : Int) true a) 256 == headW l true a &&
    bits BinOp.andNot IntKind.u64 (headW (l : Int) false a) 256 == headW l false a && bits BinOp.andNot IntKind.u64 (headW (l : Int) true a) 256 == headW l false a &&
    bits BinOp.and IntKind.u64 (headW (l : Int) false a) 256 == 0 && bits BinOp.and IntKind.u64 (headW (l : Int) true a) 256 == 256) = true := by decide +kernel
theorem mark_bits {len a : Int} (h1 : 0 ≤ len) (h2 : len ≤ 4) (h3 : 0 ≤ a) (h4 : a ≤ 7) (m : Bool) :
    bits BinOp.or IntKind.u64 (headW len m a) 256 = headW len true a ∧ bits BinOp.andNot IntKind.u64 (headW len m a) 256 = headW len false a ∧ bits BinOp.and IntKind.u64 (headW len m a) 256 = if m = true then 256 else 0 := by
  have h := mark_table
  simp only [List.all_eq_true, List.mem_range, Bool.and_eq_true, beq_iff_eq] at h
  have := h a.toNat (by omega) len.toNat (by omega)
  rw [show ((a.toNat : Nat) : Int) = a from by omega, show ((len.toNat : Nat) : Int) = len from by omega] at this
  obtain ⟨⟨⟨⟨⟨p1, p2⟩, p3⟩, p4⟩, p5⟩, p6⟩ := this
  cases m
  · exact ⟨p1, p3, by simpa using p5⟩
  · exact ⟨p2, p4, by simpa using p6⟩
theorem head_of {x : Int} (h : unheadOK x) : headW (hLen x) (hMark x) (hAge x) = x := by
  obtain ⟨h1, h2⟩ := h
  unfold headW hMark hLen hAge at *
  by_cases h3 : x / 256 % 2 = 1
  · rw [show (x / 256 % 2 == 1) = true from by simp [h3], if_pos rfl]; omega
  · rw [show (x / 256 % 2 == 1) = false from by simp [h3], if_neg (by simp)]; omega
theorem head_parts_ {len a : Int} (h1 : 0 ≤ len) (h2 : len ≤ 4) (h3 : 0 ≤ a) (h4 : a ≤ 7) (m : Bool) : hLen (headW len m a) = len ∧ hMark (headW len m a) = m ∧ hAge (headW len m a) = a ∧ unheadOK (headW len m a) ∧ 0 ≤ headW len m a ∧ headW len m a ≤ 18446744073709551615 := by
  unfold unheadOK hLen hMark hAge headW
  cases m
  · simp only [Bool.false_eq_true, if_false]
    refine ⟨by omega, ?_, by omega, by omega, by omega, by omega⟩
    rw [beq_eq_false_iff_ne]; omega
  · simp only [if_true]
    refine ⟨by omega, ?_, by omega, by omega, by omega, by omega⟩
    rw [beq_iff_eq]; omega

/-! ### Where objects stand. -/
theorem parse_at (f : Nat) : ∀ (ws : List Int) (a k : Nat), (∀ x ∈ ws, 0 ≤ x) → (hk : k < (parse f ws a).1.length) → ((parse f ws a).1[k]).1 = a + (((parse f ws a).1.take k).map fun p => 1 + p.2).sum := by
  induction f with
  | zero => intro ws a k _ hk; simp [parse] at hk
  | succ f ih =>
    intro ws a k hw hk
    unfold parse at hk ⊢
    split at hk
    · rename_i h1
      split at hk
      · rename_i h2
        simp only [h1, h2, if_true, and_self] at hk ⊢
        cases k with
        | zero => simp
        | succ k =>
          have := ih ws (a + 1 + (hLen (ws.getD a 0)).toNat) k hw (by simpa using hk)
          simp only [List.getElem_cons_succ, List.take_succ_cons, List.map_cons, List.sum_cons]
          rw [this]
          omega
      · simp at hk
    · simp at hk
theorem parse_cover (f : Nat) : ∀ (ws : List Int) (a : Nat), (∀ x ∈ ws, 0 ≤ x) → ws.length ≤ f + a → (parse f ws a).2 = true → ws.drop a = (parse f ws a).1.flatMap fun p => ws.getD p.1 0 :: fieldsAt ws p := by
  induction f with
  | zero =>
    intro ws a _ h _
    simp only [parse, List.flatMap_nil]
    exact List.drop_of_length_le (by omega)
  | succ f ih =>
    intro ws a hw hl h
    unfold parse at h ⊢
    split at h
    · rename_i h1
      split at h
      · rename_i h2
        rw [if_pos h1, if_pos h2]
        have h3 := ih ws (a + 1 + (hLen (ws.getD a 0)).toNat) hw (by omega) h
        simp only [List.flatMap_cons]
        rw [← h3]
        unfold fieldsAt
        have h4 : ws.getD a 0 = ws[a] := getD_get_ h1
        rw [List.drop_eq_getElem_cons h1, ← h4, List.cons_append]
        congr 1
        conv => lhs; rw [← List.take_append_drop (hLen (ws.getD a 0)).toNat (ws.drop (a + 1)), List.drop_drop]
      · simp at h
    · rename_i h1
      rw [if_neg h1]
      exact List.drop_of_length_le (by omega)

/-! ### Words with marks. -/
def lenN (pre : List (Nat × Nat)) (i : Nat) : Nat := (pre.getD i (0, 0)).2
def plcN (pre : List (Nat × Nat)) (i : Nat) : Nat := (pre.getD i (0, 0)).1
def ageN (ws : List Int) (pre : List (Nat × Nat)) (i : Nat) : Int := hAge (ws.getD (plcN pre i) 0)
def fldN (ws : List Int) (pre : List (Nat × Nat)) (i : Nat) : List Int := (ws.drop (plcN pre i + 1)).take (lenN pre i)
def mkB (ws : List Int) (pre : List (Nat × Nat)) (S : Nat → Bool) (i : Nat) : List Int := headW (lenN pre i) (S i) (ageN ws pre i) :: fldN ws pre i
def mkW (ws : List Int) (pre : List (Nat × Nat)) (S : Nat → Bool) : List Int := (List.range pre.length).flatMap (mkB ws pre S)
def addS (S : Nat → Bool) (i : Nat) (b : Bool) : Nat → Bool := fun j => if j = i then b else S j
theorem range_split (n i : Nat) (h : i < n) : List.range n = List.range i ++ i :: (List.range' (i + 1) (n - i - 1)) := by
  obtain ⟨m, rfl⟩ : ∃ m, n = i + (m + 1) := ⟨n - i - 1, by omega⟩
  rw [show i + (m + 1) - i - 1 = m from by omega, List.range_eq_range', List.range_eq_range', ← List.range'_append_1, Nat.zero_add, List.range'_succ]
theorem mkW_congr (ws : List Int) (pre : List (Nat × Nat)) {S T : Nat → Bool} (h : ∀ i, i < pre.length → S i = T i) : mkW ws pre S = mkW ws pre T := by
  unfold mkW
  refine flatMap_congr_ fun i hi => ?_
  unfold mkB
  rw [h i (List.mem_range.1 hi)]
structure ArnOk (nW : Nat) (ws : List Int) : Prop where
  len : ws.length = nW
  max : nW ≤ 256
  pos : ∀ x ∈ ws, 0 ≤ x
  ok : (parse nW ws 0).2 = true
section
variable {nW : Nat} {ws : List Int} {S : Nat → Bool} {i j : Nat}
theorem ArnOk.obj (h : ArnOk nW ws) (hi : i < (parse nW ws 0).1.length) : plcN (parse nW ws 0).1 i < nW ∧ unheadOK (ws.getD (plcN (parse nW ws 0).1 i) 0) ∧ hLen (ws.getD (plcN (parse nW ws 0).1 i) 0) = (lenN (parse nW ws 0).1 i : Int) ∧ plcN (parse nW ws 0).1 i + 1 + lenN (parse nW ws 0).1 i ≤ nW ∧ lenN (parse nW ws 0).1 i ≤ 4 ∧ 0 ≤ ageN ws (parse nW ws 0).1 i ∧ ageN ws (parse nW ws 0).1 i ≤ 7 := by
  obtain ⟨h1, h2, h3, h4⟩ := parse_mem nW ws 0 _ h.pos (List.getElem_mem hi)
  have e : (parse nW ws 0).1.getD i (0, 0) = (parse nW ws 0).1[i] := by rw [List.getD_eq_getElem?_getD, List.getElem?_eq_getElem hi]; rfl
  unfold plcN lenN ageN plcN hAge
  rw [e]
  have := h2.1
  rw [h.len] at h1 h4
  refine ⟨h1, h2, h3, h4, by omega, by omega, by omega⟩
theorem ArnOk.fld (h : ArnOk nW ws) (hi : i < (parse nW ws 0).1.length) : (fldN ws (parse nW ws 0).1 i).length = lenN (parse nW ws 0).1 i := by
  have := h.obj hi
  have := h.len
  unfold fldN
  rw [List.length_take, List.length_drop]
  omega
theorem ArnOk.before (h : ArnOk nW ws) (hi : i < (parse nW ws 0).1.length) (T : Nat → Bool) : ((List.range i).flatMap (mkB ws (parse nW ws 0).1 T)).length = plcN (parse nW ws 0).1 i := by
  have h1 := parse_at nW ws 0 i h.pos hi
  have e : plcN (parse nW ws 0).1 i = ((parse nW ws 0).1[i]).1 := by unfold plcN; rw [List.getD_eq_getElem?_getD, List.getElem?_eq_getElem hi]; rfl
  rw [e, h1, Nat.zero_add]
  have key : ∀ k, k ≤ (parse nW ws 0).1.length → ((List.range k).flatMap (mkB ws (parse nW ws 0).1 T)).length = (((parse nW ws 0).1.take k).map fun p => 1 + p.2).sum := by
    intro k
    induction k with
    | zero => intro _; rfl
    | succ k ih =>
      intro hk
      have hf := h.fld (i := k) (by omega)
      rw [List.range_succ, List.flatMap_append, List.length_append, ih (by omega), List.take_succ_eq_append_getElem (by omega), List.map_append, List.sum_append]
      simp only [List.flatMap_cons, List.flatMap_nil, List.append_nil, List.map_cons, List.map_nil, List.sum_cons, List.sum_nil]
      unfold mkB
      rw [List.length_cons, hf]
      have : lenN (parse nW ws 0).1 k = ((parse nW ws 0).1[k]).2 := by unfold lenN; rw [List.getD_eq_getElem?_getD, List.getElem?_eq_getElem (by omega)]; rfl
      omega
  exact key i (by omega)
/-- The words fall into what lies before an object, it, and what lies behind. -/
theorem mkW_split (S : Nat → Bool) (pre : List (Nat × Nat)) (hi : i < pre.length) : mkW ws pre S = (List.range i).flatMap (mkB ws pre S) ++ headW (lenN pre i) (S i) (ageN ws pre i) :: (fldN ws pre i ++ (List.range' (i + 1) (pre.length - i - 1)).flatMap (mkB ws pre S)) := by
  unfold mkW
  rw [range_split _ i hi, List.flatMap_append, List.flatMap_cons]
  rfl
theorem ArnOk.head (h : ArnOk nW ws) (hi : i < (parse nW ws 0).1.length) (S : Nat → Bool) : (mkW ws (parse nW ws 0).1 S)[plcN (parse nW ws 0).1 i]? = some (headW (lenN (parse nW ws 0).1 i) (S i) (ageN ws (parse nW ws 0).1 i)) := by
  rw [mkW_split S _ hi, ← h.before hi S]
  simp
theorem ArnOk.field (h : ArnOk nW ws) (hi : i < (parse nW ws 0).1.length) (hj : j < lenN (parse nW ws 0).1 i) (S : Nat → Bool) : (mkW ws (parse nW ws 0).1 S)[plcN (parse nW ws 0).1 i + 1 + j]? = (fldN ws (parse nW ws 0).1 i)[j]? := by
  have hf := h.fld hi
  rw [mkW_split S _ hi, List.getElem?_append_right (by rw [h.before hi S]; omega), h.before hi S, show plcN (parse nW ws 0).1 i + 1 + j - plcN (parse nW ws 0).1 i = j + 1 from by omega, List.getElem?_cons_succ, List.getElem?_append_left (by omega)]
theorem ArnOk.set (h : ArnOk nW ws) (hi : i < (parse nW ws 0).1.length) (S : Nat → Bool) (b : Bool) : (mkW ws (parse nW ws 0).1 S).set (plcN (parse nW ws 0).1 i) (headW (lenN (parse nW ws 0).1 i) b (ageN ws (parse nW ws 0).1 i)) = mkW ws (parse nW ws 0).1 (addS S i b) := by
  rw [mkW_split S _ hi, mkW_split (addS S i b) _ hi, ← h.before hi S, set_mid_]
  have h1 : ∀ l : List Nat, i ∉ l → l.flatMap (mkB ws (parse nW ws 0).1 S) = l.flatMap (mkB ws (parse nW ws 0).1 (addS S i b)) := by
    intro l hl
    induction l with
    | nil => rfl
    | cons a l ih =>
      rw [List.flatMap_cons, List.flatMap_cons, ih (fun h => hl (by simp [h]))]
      congr 1
      unfold mkB addS
      rw [if_neg (fun e => hl (by simp [e]))]
  rw [← h1 _ (by simp), ← h1 _ (by simp [List.mem_range']; omega)]
  unfold addS
  rw [if_pos rfl]
theorem ArnOk.length (h : ArnOk nW ws) (S : Nat → Bool) : (mkW ws (parse nW ws 0).1 S).length = nW := by
  have h1 := parse_cover nW ws 0 h.pos (by rw [h.len]; omega) h.ok
  rw [List.drop_zero] at h1
  have h2 : (mkW ws (parse nW ws 0).1 S).length = ((parse nW ws 0).1.flatMap fun p => ws.getD p.1 0 :: fieldsAt ws p).length := by
    have h3 : ((parse nW ws 0).1.flatMap fun p => ws.getD p.1 0 :: fieldsAt ws p) = (List.range (parse nW ws 0).1.length).flatMap fun i => ws.getD (plcN (parse nW ws 0).1 i) 0 :: fldN ws (parse nW ws 0).1 i := flatMap_range _ _
    rw [h3]
    unfold mkW mkB
    rw [List.length_flatMap, List.length_flatMap]
    congr 1
  rw [h2, ← h1, h.len]
/-- The words as they stand. -/
theorem ArnOk.self (h : ArnOk nW ws) : mkW ws (parse nW ws 0).1 (fun i => hMark (ws.getD (plcN (parse nW ws 0).1 i) 0)) = ws := by
  have h1 := parse_cover nW ws 0 h.pos (by rw [h.len]; omega) h.ok
  rw [List.drop_zero] at h1
  have h3 : ((parse nW ws 0).1.flatMap fun p => ws.getD p.1 0 :: fieldsAt ws p) = (List.range (parse nW ws 0).1.length).flatMap fun i => ws.getD (plcN (parse nW ws 0).1 i) 0 :: fldN ws (parse nW ws 0).1 i := flatMap_range _ _
  conv => rhs; rw [h1, h3]
  unfold mkW
  refine flatMap_congr_ fun i hi => ?_
  obtain ⟨_, h5, h6, _⟩ := h.obj (List.mem_range.1 hi)
  unfold mkB ageN
  rw [← h6, head_of h5]
end
end Go.Proofs.Ytpbafmdebflbpaa

namespace Go.Proofs.Ytpbafmdebflbpaa
open Go.RowKit

set_option maxHeartbeats 400000 in
theorem bit_any (w : World) (x y : Int) (h : bits BinOp.and IntKind.u64 x 256 = y) :
    Calls Try.prog 84 #[.int .u64 x] w fun e w' => e = .returned (.bool (y != 0)) ∧ w' = w := by
  go_enter Try.func84, Try.ntmps84
  go_wp2
  go_ret
  first | exact ⟨rfl, rfl⟩ | exact rfl
set_option maxHeartbeats 400000 in
theorem set_on (w : World) (x y : Int) (h : bits BinOp.or IntKind.u64 x 256 = y) :
    Calls Try.prog 111 #[.int .u64 x, .bool true] w fun e w' => e = .returned (.int .u64 y) ∧ w' = w := by
  go_enter Try.func111, Try.ntmps111
  go_wp2
  go_ret
  first | exact ⟨rfl, rfl⟩ | exact rfl
set_option maxHeartbeats 400000 in
theorem set_off (w : World) (x y : Int) (h : bits BinOp.andNot IntKind.u64 x 256 = y) :
    Calls Try.prog 111 #[.int .u64 x, .bool false] w fun e w' => e = .returned (.int .u64 y) ∧ w' = w := by
  go_enter Try.func111, Try.ntmps111
  go_wp2
  go_ret
  first | exact ⟨rfl, rfl⟩ | exact rfl

set_option maxRecDepth 100000 in
set_option maxHeartbeats 4000000 in
/-- The fields of an object, where they stand. -/
theorem fieldsAt_any (w : World) (g nw cw at_ len : Nat) (x : Int) (hc0 : w.cell? ⟨g, at_, none⟩ = some (.int .u64 x)) (hx : 0 ≤ x ∧ x ≤ 18446744073709551615) (hn : nw ≤ 256) (hc1 : nw ≤ cw) (hc2 : cw ≤ 9223372036854775807) (hok : unheadOK x) (hlen : hLen x = (len : Int)) (hl : at_ + 1 + len ≤ nw) :
    Calls Try.prog 79 #[.slice (some ⟨g, 0, none⟩) nw cw, .int .i64 at_] w fun e w' => ∃ (A : Option Addr) (c : Nat),
      e = .returned (.slice A len c) ∧ Below w.heap.size w w' ∧ (0 < len → A = some ⟨g, at_ + 1, none⟩) := by
  have hlt : at_ < nw := by omega
  have C := fun w' => unheadP_ok w' x hx.1 hx.2 hok
  rw [hlen] at C
  have C1 := hide C
  have hl4 : len ≤ 4 := by have := hok.1; omega
  clear C hlen hok hx
  go_enter Try.func79, Try.ntmps79
  go_wp2_with fail
  refine (C1.out _).mono ?_
  rintro e w1 ⟨rfl, hb1⟩
  have hz := hb1.size
  by_cases hcc : cw = at_ + 1
  · have hl0 : len = 0 := by omega
    subst hl0
    go_wp2_with fail
    go_ret
    exact ⟨_, 0, rfl, hb1.alloc hz _, fun h => absurd h (by omega)⟩
  · have H8 := hide (show at_ + 1 + len - (at_ + 1) = len by omega)
    go_wp2_with fail
    go_ret
    exact ⟨_, cw - (at_ + 1), Eq.trans (b := Ending.returned (.slice (some ⟨g, 0 + (at_ + 1), none⟩) (at_ + 1 + len - (at_ + 1)) (cw - (at_ + 1)))) (by first | rfl | simp) (by rw [H8.out]), hb1.alloc hz _, fun _ => by simp⟩
end Go.Proofs.Ytpbafmdebflbpaa

namespace Go.Proofs.Ytpbafmdebflbpaa
open Go.RowKit

theorem wsIn_of_row {w : World} {e n c : Nat} {A : Option Addr} {xs : List Int} (h : w.ownsRow 0 e 1 (.slice A n c) n (u64s xs)) (hx : ∀ x ∈ xs, 0 ≤ x ∧ x ≤ 18446744073709551615) : WsIn w A n c xs := by
  refine ⟨Rd.of_own h (fun _ _ => trivial), ?_, ?_, hx⟩
  · rcases h.2 with ⟨hv, _⟩ | ⟨g, cap, cur, hv, _, _, h1, h2, _⟩
    · injection hv with _ h1 h2; subst h1 h2; omega
    · injection hv with _ _ h3; subst h3; simp only [maxLen] at h2; omega
  · intro hA
    subst hA
    rcases h.2 with ⟨hv, _⟩ | ⟨g, cap, cur, hv, _⟩
    · injection hv with _ h1 h2; exact ⟨h1, h2⟩
    · injection hv with h1; cases h1
theorem ints_get (l : List Int) (k : Nat) (h : k < l.length) : (ints l)[k]? = some (.int .i64 l[k]) := by simp [ints, List.getElem?_eq_getElem h]
theorem u64s_get (l : List Int) (k : Nat) : (u64s l)[k]? = l[k]?.map (Value.int .u64) := by simp [u64s]
theorem u64s_set (l : List Int) (k : Nat) (x : Int) : (u64s l).set k (.int .u64 x) = u64s (l.set k x) := by unfold u64s; rw [List.map_set]
/-- The marks as they stand, the first k struck. -/
def strk (ws : List Int) (pre : List (Nat × Nat)) (k : Nat) : Nat → Bool := fun i => decide (k ≤ i) && hMark (ws.getD (plcN pre i) 0)
theorem strk_zero (ws : List Int) (pre : List (Nat × Nat)) : strk ws pre 0 = fun i => hMark (ws.getD (plcN pre i) 0) := by funext i; simp [strk]
theorem strk_succ (ws : List Int) (pre : List (Nat × Nat)) (k : Nat) : addS (strk ws pre k) k false = strk ws pre (k + 1) := by
  funext i
  unfold addS strk
  by_cases h : i = k
  · subst h; simp; intro h; omega
  · rw [if_neg h]
    congr 1
    rw [decide_eq_decide]; omega
theorem strk_end (ws : List Int) (pre : List (Nat × Nat)) : mkW ws pre (strk ws pre pre.length) = mkW ws pre (fun _ => false) :=
  mkW_congr ws pre fun i hi => by unfold strk; rw [decide_eq_false (by omega)]; rfl
theorem plc_get {pre : List (Nat × Nat)} {k : Nat} (h : k < pre.length) : (pre[k].1 : Nat) = plcN pre k := by
  unfold plcN; rw [List.getD_eq_getElem?_getD, List.getElem?_eq_getElem h]; rfl
theorem ArnOk.ofRange {nW : Nat} {ws : List Int} (h : ArnOk nW ws) {i : Nat} (hi : i < (parse nW ws 0).1.length) (S : Nat → Bool) : 0 ≤ headW (lenN (parse nW ws 0).1 i : Int) (S i) (ageN ws (parse nW ws 0).1 i) ∧ headW (lenN (parse nW ws 0).1 i : Int) (S i) (ageN ws (parse nW ws 0).1 i) ≤ 18446744073709551615 := by
  obtain ⟨_, _, _, _, h4, h5, h6⟩ := h.obj hi
  have := head_parts_ (len := (lenN (parse nW ws 0).1 i : Int)) (by omega) (by omega) h5 h6 (S i)
  exact ⟨this.2.2.2.2.1, this.2.2.2.2.2⟩

theorem perm_c1 {α : Type} (a b c d e : α) : [a, b, c, d, e].Perm [c, d, e, a, b] := by
  classical
  rw [List.perm_iff_count]
  intro x
  simp only [List.count_cons, List.count_nil]
  omega
theorem perm_c2 {α : Type} (a b c d e : α) : [a, b, c, d, e].Perm [c, e, d, a, b] := by
  classical
  rw [List.perm_iff_count]
  intro x
  simp only [List.count_cons, List.count_nil]
  omega
theorem perm_c3 {α : Type} (a b c d e : α) : [a, b, c, d, e].Perm [d, e, c, a, b] := by
  classical
  rw [List.perm_iff_count]
  intro x
  simp only [List.count_cons, List.count_nil]
  omega
set_option maxRecDepth 100000 in
set_option maxHeartbeats 16000000 in
theorem cleared_any (w : World) (AW AR : Option Addr) (nW cW nR cR : Nat) (ws rs : List Int) (hW : WsIn w AW nW cW ws) (hR : WsIn w AR nR cR rs) (hok : ArnOk nW ws) (h2 : nR ≤ 8) :
    Calls Try.prog 82 #[.agg #[.slice AW nW cW, .slice AR nR cR]] w fun e w' => ∃ A c A' c', e = .returned (.agg #[.slice A nW c, .slice A' nR c']) ∧
      Sep No w w' [rowI 24 1 A nW c (u64s (mkW ws (parse nW ws 0).1 (fun _ => false))), rowI 24 1 A' nR c' (u64s rs)] := by
  have h1 := hok.max
  have HSELF := hide hok.self
  have HOBJ := hide (fun i hi => hok.obj (i := i) hi)
  have HHEAD := hide (fun i hi S => hok.head (i := i) hi S)
  have HSET := hide (fun i hi S b => hok.set (i := i) hi S b)
  have hS0 := ((Sep.nil No w).blkAt 55 #[.slice AW nW cW, .slice AR nR cR] rfl).blkAt 55 #[.slice none 0 0, .slice none 0 0] (g := w.heap.size + 1) (by simp)
  obtain ⟨a1, a2, a3, a4⟩ := hS0.rules 0 (g := w.heap.size) (t := 55) rfl
  have a5 := a1 0
  have a6 := a1 1
  have HS0 := hide hS0
  have C1 := hide (fun w' (hb : Below w.heap.size w w') => clone_any w' AW nW cW ws hW.nil (by omega) (hW.below hb).rd)
  have C2 := hide (fun w' (hb : Below w.heap.size w w') => clone_any w' AR nR cR rs hR.nil (by omega) (hR.below hb).rd)
  have C3 := hide (fun w' (hb : Below w.heap.size w w') => begins_any w' AW AR nW cW nR cR ws (hW.below hb) h1 hok.ok)
  have HPW := hide (strk_end ws (parse nW ws 0).1)
  obtain ⟨pre, hpre⟩ : ∃ pre, (parse nW ws 0).1 = pre := ⟨_, rfl⟩
  rw [hpre] at HSELF HOBJ HHEAD HSET C3 HPW ⊢
  clear hS0 hpre hok a1 a4
  go_enter Try.func82, Try.ntmps82
  go_wp2_with fail
  go_cut [3] from 6 (fun s3 wc => ∃ (B c1 c2 : Nat) (A1 A2 : Option Addr), s3 = .pointer (some ⟨B, 0, none⟩) ∧ Sep No w wc [rowI 24 1 A1 nW c1 (u64s ws), rowI 24 1 A2 nR c2 (u64s rs), blkI B 55 #[.slice A1 nW c1, .slice A2 nR c2], blkI w.heap.size 55 #[.slice AW nW cW, .slice AR nR cR], blkI (w.heap.size + 1) 55 #[.slice none 0 0, .slice none 0 0]])
  case first =>
    have M1 : True := trivial
    have M2 : True := trivial
    go_region_law (first
      | (have M := M1
         clear M M1
         try go_simp
         go_at_call 73
         first
           | with_reducible refine (C1.out _ HS0.out.drew.below_).mono ?_
             rintro e w1 ⟨A1, c1, rfl, hP1⟩
             have hS1 := HS0.out.drew.snocNew hP1.below_ _ (hP1.get 0 rfl) (fun g hg => (hP1.lo 0 rfl g hg).resolve_left (fun h => h))
             obtain ⟨x1, x2, x3, x4⟩ := hS1.rules 0 (g := w.heap.size) (t := 55) rfl
             (have x5 := x1 0)
             (have x6 := x1 1)
             clear x1 x4 hP1
           | have hS0b := (HS0.out.blkAt 55 #[.slice none 0 0, .slice none 0 0] (g := w.heap.size + 1 + 1) (by simp)).drew
             with_reducible refine (C1.out _ hS0b.below_).mono ?_
             rintro e w1 ⟨A1, c1, rfl, hP1⟩
             have hS1 := hS0b.snocNew hP1.below_ _ (hP1.get 0 rfl) (fun g hg => (hP1.lo 0 rfl g hg).resolve_left (fun h => h))
             obtain ⟨x1, x2, x3, x4⟩ := hS1.rules 0 (g := w.heap.size) (t := 55) rfl
             (have x5 := x1 0)
             (have x6 := x1 1)
             clear x1 x4 hP1)
      | (have M := M2
         clear M M2
         try go_simp
         go_at_call 73
         first
           | with_reducible refine (C2.out _ hS1.below_).mono ?_
             rintro e w2 ⟨A2, c2, rfl, hP2⟩
             have hS2 := hS1.snocNew hP2.below_ _ (hP2.get 0 rfl) (fun g hg => (hP2.lo 0 rfl g hg).resolve_left (fun h => h))
             (try (obtain ⟨y1, y2, y3, y4⟩ := hS2.rules 2 (g := w.heap.size + 1 + 1) (t := 55) rfl
                   (have y5 := y1 0)
                   (have y6 := y1 1)
                   clear y1 y4))
             clear hP2
           | have hS1b := hS1.blkAt 55 #[.slice none 0 0, .slice none 0 0] rfl
             with_reducible refine (C2.out _ hS1b.below_).mono ?_
             rintro e w2 ⟨A2, c2, rfl, hP2⟩
             have hS2 := hS1b.snocNew hP2.below_ _ (hP2.get 0 rfl) (fun g hg => (hP2.lo 0 rfl g hg).resolve_left (fun h => h))
             obtain ⟨y1, y2, y3, y4⟩ := hS2.rules 3 (g := w1.heap.size) (t := 55) rfl
             (have y5 := y1 0)
             (have y6 := y1 1)
             clear hP2 y1 y4))
    all_goals
      go_wp2_with fail
      go_meet
      case rel =>
        first
          | exact ⟨_, _, _, _, _, rfl, (hS2.blkAt 55 #[.slice A1 nW c1, .slice A2 nR c2] rfl).perm (perm_c1 _ _ _ _ _)⟩
          | exact ⟨_, _, _, _, _, rfl, ((hS2.set_ 3 (g := w1.heap.size) (t := 55) rfl 0 (.slice A1 nW c1)).set_ 3 (g := w1.heap.size) (t := 55) rfl 1 (.slice A2 nR c2)).perm (perm_c2 _ _ _ _ _)⟩
          | exact ⟨_, _, _, _, _, rfl, ((hS2.set_ 2 (g := w.heap.size + 1 + 1) (t := 55) rfl 0 (.slice A1 nW c1)).set_ 2 (g := w.heap.size + 1 + 1) (t := 55) rfl 1 (.slice A2 nR c2)).perm (perm_c3 _ _ _ _ _)⟩
          | exact ⟨_, _, _, _, _, rfl, ((hS2.blkAt 55 #[.slice A1 nW c1, .slice A2 nR c2] rfl).perm (perm_c1 _ _ _ _ _)).drew⟩
          | exact ⟨_, _, _, _, _, rfl, (((hS2.set_ 3 (g := w1.heap.size) (t := 55) rfl 0 (.slice A1 nW c1)).set_ 3 (g := w1.heap.size) (t := 55) rfl 1 (.slice A2 nR c2)).perm (perm_c2 _ _ _ _ _)).drew⟩
          | trace_state
  case rest =>
    obtain ⟨B, c1, c2, A1, A2, rfl, hS⟩ := hcut
    obtain ⟨x1, x2, x3, x4⟩ := hS.rules 3 (g := w.heap.size) (t := 55) rfl
    have x5 := x1 0
    have x6 := x1 1
    have C := hide (C3.out wc hS.below_)
    have HS := hide hS
    clear x1 x4 C1 C2 C3 HS0 hS
    go_wp2_with fail
    refine C.out.mono ?_
    rintro e w5 ⟨As, ns, cs, rfl, hns, hP⟩
    have hnl : ns = pre.length := by have := (hP.rd_ 0 rfl).1; simp [placesOf] at this; omega
    subst hnl
    have hS5 : Sep No w w5 [rowI 24 1 A1 nW c1 (u64s (mkW ws pre (strk ws pre 0))), rowI 24 1 A2 nR c2 (u64s rs), blkI B 55 #[.slice A1 nW c1, .slice A2 nR c2], blkI w.heap.size 55 #[.slice AW nW cW, .slice AR nR cR], blkI (w.heap.size + 1) 55 #[.slice none 0 0, .slice none 0 0], rowI 3 1 As pre.length cs (ints (placesOf pre))] := by
      rw [strk_zero, HSELF.out]
      exact HS.out.snocNew hP.below_ _ (hP.get 0 rfl) (fun g hg => (hP.lo 0 rfl g hg).resolve_left (fun h => h))
    have HS5 := hide hS5
    clear x2 x3 x5 x6 C HS hP hS5
    go_wp2_with fail
    go_loopw [16] (fun i wr => ∃ k : Nat, k ≤ pre.length ∧ i = .int .i64 k ∧ Sep No w wr [rowI 24 1 A1 nW c1 (u64s (mkW ws pre (strk ws pre k))), rowI 24 1 A2 nR c2 (u64s rs), blkI B 55 #[.slice A1 nW c1, .slice A2 nR c2], blkI w.heap.size 55 #[.slice AW nW cW, .slice AR nR cR], blkI (w.heap.size + 1) 55 #[.slice none 0 0, .slice none 0 0], rowI 3 1 As pre.length cs (ints (placesOf pre))]) (fun i _ => pre.length - (intOf i).toNat)
    case atStart => exact ⟨0, by omega, rfl, HS5.out⟩
    case round =>
      clear HS5
      obtain ⟨k, hk, rfl, hS⟩ := hrel
      obtain ⟨x1, x2, x3, x4⟩ := hS.rules 2 (g := B) (t := 55) rfl
      have x5 := x1 0
      have x6 := x1 1
      by_cases hlt : k < pre.length
      · obtain ⟨ad, hA, _, had, hc⟩ := (hS.rd_ 5 rfl).at_ hlt
        have e0 := hc (.int .i64 (plcN pre k)) (by rw [← plc_get hlt]; simp [placesOf, List.getElem?_eq_getElem hlt])
        obtain ⟨o1, o2, o3, o4, o5, o6, o7⟩ := HOBJ.out k hlt
        have hrow : wr.ownsRow 0 24 1 (.slice A1 nW c1) nW (u64s (mkW ws pre (strk ws pre k))) := hS.get 0 rfl
        obtain ⟨g, hA1⟩ := own_addr hrow (by omega)
        subst hA1
        have MB := (mark_bits (len := (lenN pre k : Int)) (a := ageN ws pre k) (by omega) (by omega) o6 o7 (strk ws pre k k)).2.1
        have f0 := (hrow.cellAt (plcN pre k) (by omega)).trans ((u64s_get _ _).trans (congrArg _ (HHEAD.out k hlt (strk ws pre k))))
        have f1 := hrow.frozenAt (plcN pre k)
        have hS6 := (hS.store 0 (g := g) rfl (plcN pre k) (.int .u64 (headW (lenN pre k : Int) false (ageN ws pre k)))).drew
        rw [u64s_set, HSET.out k hlt, strk_succ] at hS6
        obtain ⟨at_, hat⟩ : ∃ at_, plcN pre k = at_ := ⟨_, rfl⟩
        obtain ⟨hw, hhw⟩ : ∃ hw, headW (lenN pre k : Int) (strk ws pre k k) (ageN ws pre k) = hw := ⟨_, rfl⟩
        obtain ⟨hv, hhv⟩ : ∃ hv, headW (lenN pre k : Int) false (ageN ws pre k) = hv := ⟨_, rfl⟩
        rw [hat] at e0 f0 f1 hS6 o1
        rw [hhw] at f0 MB
        rw [hhv] at MB hS6
        have CS := hide (fun w' => set_off w' hw hv MB)
        have HS6 := hide hS6
        simp only [Option.map_some] at f0
        subst hA
        clear hS hS6 hc hrow MB x1 x4 x6 o2 o3 o4 o5 o6 o7 hat hhw hhv
        go_wp2_with fail
        go_region_law (first
          | (try go_simp
             go_at_call 111
             refine (CS.out _).mono ?_
             rintro e w1 ⟨rfl, rfl⟩))
        all_goals
          go_wp2_with fail
          go_roundw
          case rel => exact ⟨k + 1, by omega, by go_num, HS6.out⟩
          case measure => simp [intOf]; omega
      · obtain rfl : k = pre.length := by omega
        rw [HPW.out] at hS
        obtain ⟨z1, z2, z3, z4⟩ := hS.rules 4 (g := w.heap.size + 1) (t := 55) rfl
        have HS := hide hS
        clear x4 x1 hS
        go_wp2_with fail
        have hF := (HS.out.set_ 4 (g := w.heap.size + 1) (t := 55) rfl 0 (.slice A1 nW c1)).set_ 4 (g := w.heap.size + 1) (t := 55) rfl 1 (.slice A2 nR c2)
        refine bodyPost_ret (v := .agg #[.slice A1 nW c1, .slice A2 nR c2]) (by simp [results, Try.results82, go_sem, z1]) rfl ⟨_, _, _, _, rfl, hF.sub (by simp)⟩
end Go.Proofs.Ytpbafmdebflbpaa
