/- move: mover.move, whatever the word; mover.all. Marks: an arena's words with given marks; the plain part. Marks: Bit, Set, the fields at a place, Cleared. -/
import Derived.Test.YtpbafmdebflbpaaGMarkTells12
set_option linter.unusedSimpArgs false
set_option linter.unusedVariables false
namespace Go.Proofs.Ytpbafmdebflbpaa
open Go.RowKit Go.Maps

/-- A word of an arena that may be. -/
structure GoodW (pre : List (Nat × Nat)) (x : Int) : Prop where
  lo : 0 ≤ x
  hi : x ≤ 18446744073709551615
  e : unE x = 0
  ix : unR x = true → ixOf pre (unA x) < pre.length ∧ (placesOf pre)[ixOf pre (unA x)]? = some (unA x)
theorem GoodW.num {pre : List (Nat × Nat)} {x : Int} (h : GoodW pre x) (hr : unR x = false) : x % 2 = 1 := by
  have he := h.e
  unfold unE at he
  unfold unR at hr
  simp only [decide_eq_false_iff_not, not_and] at hr
  split at he
  · assumption
  · split at he
    · have := hr (by omega); omega
    · omega
theorem GoodW.ref {pre : List (Nat × Nat)} {x : Int} (h : GoodW pre x) (hr : unR x = true) : x % 2 = 0 ∧ x < 512 ∧ unA x = x / 2 ∧ (plc pre (ixOf pre (unA x) : Nat) : Int) = x / 2 ∧ ixOf pre (unA x) < pre.length := by
  have hr2 := hr
  unfold unR at hr2
  simp only [decide_eq_true_eq] at hr2
  have ha : unA x = x / 2 := by unfold unA; rw [if_neg (by omega), if_pos (by omega)]
  obtain ⟨h1, h2⟩ := h.ix hr
  refine ⟨hr2.1, hr2.2, ha, ?_, h1⟩
  rw [← ha]
  generalize ixOf pre (unA x) = q at *
  unfold placesOf at h2
  rw [List.getElem?_map, List.getElem?_eq_getElem h1] at h2
  have h3 : ((pre[q].1 : Nat) : Int) = unA x := by simpa using h2
  rw [← h3]
  unfold plc
  rw [List.getD_eq_getElem?_getD]
  simp [List.getElem?_eq_getElem h1]

/-- The list of what has moved, behind a word; and what that word adds. -/
def mvL (pre : List (Nat × Nat)) (l : List Int) (x : Int) : List Int := seen1 l (turnW (ixOf pre) x)
def mvE (ws : List Int) (pre : List (Nat × Nat)) (l : List Int) (x : Int) : List Int := if unR x = true ∧ (ixOf pre (unA x) : Int) ∉ l then rawO ws pre 1 (ixOf pre (unA x)) else []
theorem mvL_no {pre : List (Nat × Nat)} {l : List Int} {x : Int} (h : unR x = false ∨ (ixOf pre (unA x) : Int) ∈ l) : mvL pre l x = l := by
  unfold mvL turnW
  cases hr : unR x with
  | false => exact seen1_no _ _ _ (.inl rfl)
  | true =>
    rcases h with h | h
    · rw [hr] at h; cases h
    · exact seen1_no _ _ _ (.inr h)
theorem mvL_yes {pre : List (Nat × Nat)} {l : List Int} {x : Int} (hr : unR x = true) (h : (ixOf pre (unA x) : Int) ∉ l) : mvL pre l x = l ++ [(ixOf pre (unA x) : Int)] := by
  unfold mvL turnW; rw [hr]; exact seen1_yes _ _ h
theorem mvL_mem {pre : List (Nat × Nat)} {l : List Int} {x : Int} (hr : unR x = true) : (ixOf pre (unA x) : Int) ∈ mvL pre l x := by
  by_cases h : (ixOf pre (unA x) : Int) ∈ l
  · rw [mvL_no (.inr h)]; exact h
  · rw [mvL_yes hr h]; simp
theorem mvL_ok {pre : List (Nat × Nat)} {l : List Int} {x : Int} (hx : GoodW pre x) (h : OrdOk pre.length l) : OrdOk pre.length (mvL pre l x) := by
  refine h.seen1 fun hv => ?_
  have hr : unR x = true := hv
  have := (hx.ref hr).2.2.2.2
  unfold turnW
  rw [hr]
  dsimp only
  rw [if_pos rfl]
  omega
theorem transW_pre {pre : List (Nat × Nat)} {l m : List Int} {x : Int} (hp : l <+: m) (h : unR x = true → (ixOf pre (unA x) : Int) ∈ l) : transW pre m x = transW pre l x := by
  unfold transW
  split
  · rename_i hr; rw [newAt_pre hp (h hr)]
  · rfl
theorem rawO_len {nW : Nat} {ws : List Int} {o i : Int} (hw : ∀ x ∈ ws, 0 ≤ x) (hi0 : 0 ≤ i) (hi : i < (parse nW ws 0).1.length) : (rawO ws (parse nW ws 0).1 o i).length = 1 + lenO (parse nW ws 0).1 i ∧ plc (parse nW ws 0).1 i < ws.length ∧ unheadOK (ws.getD (plc (parse nW ws 0).1 i) 0) ∧ hLen (ws.getD (plc (parse nW ws 0).1 i) 0) = (lenO (parse nW ws 0).1 i : Int) ∧ plc (parse nW ws 0).1 i + 1 + lenO (parse nW ws 0).1 i ≤ ws.length := by
  have hm := fun p hp => parse_mem nW ws 0 p hw hp
  generalize (parse nW ws 0).1 = pre at *
  have hil : i.toNat < pre.length := by omega
  obtain ⟨h1, h2, h3, h4⟩ := hm _ (List.getElem_mem hil)
  have e : pre.getD i.toNat (0, 0) = pre[i.toNat] := by rw [List.getD_eq_getElem?_getD, List.getElem?_eq_getElem hil]; rfl
  refine ⟨?_, ?_, ?_, ?_, ?_⟩
  · unfold rawO plc lenO
    rw [e]
    simp only [List.length_cons, List.length_take, List.length_drop]
    omega
  all_goals (unfold plc; rw [e]; try (unfold lenO; rw [e]))
  · exact h1
  · exact h2
  · exact h3
  · exact h4

set_option maxRecDepth 100000 in
set_option maxHeartbeats 1600000 in
theorem mv_any (w : World) (Dw : Nat → Prop) (m b : Nat) (D : DataW Unit) (Aw At : Option Addr) (nw cw nt ct : Nat) (ws xs l : List Int) (x : Int) (hs : (allI (MvI m b l.length D At nt ct xs Aw nw cw)).P w) (hD : ∀ g, (allI (MvI m b l.length D At nt ct xs Aw nw cw)).fp g → ¬ Dw g) (hW : WsD w Dw Aw nw cw ws) (hn : nw ≤ 256)
    (hO : OrdOk (parse nw ws 0).1.length l) (hN : NowOk (parse nw ws 0).1 l D) (hnt : nt = sumO (parse nw ws 0).1 l) (hx : GoodW (parse nw ws 0).1 x) :
    Calls Try.prog 65 #[.pointer (some ⟨m, 0, none⟩), .int .u64 x] w fun e w' => ∃ D' At' nt' ct', e = .returned (.int .u64 (transW (parse nw ws 0).1 (mvL (parse nw ws 0).1 l x) x)) ∧
      NowOk (parse nw ws 0).1 (mvL (parse nw ws 0).1 l x) D' ∧ nt' = sumO (parse nw ws 0).1 (mvL (parse nw ws 0).1 l x) ∧
      Sep (allI (MvI m b l.length D At nt ct xs Aw nw cw)).fp w w' [allI (MvI m b (mvL (parse nw ws 0).1 l x).length D' At' nt' ct' (xs ++ mvE ws (parse nw ws 0).1 l x) Aw nw cw)] := by
  have hw0 : ∀ x ∈ ws, 0 ≤ x := fun x hx => (hW.wf x hx).1
  have hwl := hW.in_.len
  cases hr : unR x with
  | false =>
    have h1 : mvL (parse nw ws 0).1 l x = l := mvL_no (.inl hr)
    have h2 : mvE ws (parse nw ws 0).1 l x = [] := by unfold mvE; rw [if_neg (by rw [hr]; simp)]
    have h3 : transW (parse nw ws 0).1 l x = x := by unfold transW; rw [if_neg (by rw [hr]; simp)]
    rw [h1, h2, h3, List.append_nil]
    refine (mv_num w m x hx.lo hx.hi (hx.num hr)).mono ?_
    rintro e w' ⟨rfl, rfl⟩
    exact ⟨D, At, nt, ct, rfl, hN, hnt, Sep.start hs⟩
  | true =>
    obtain ⟨r1, r2, r3, r4, r5⟩ := hx.ref hr
    obtain ⟨q, hq⟩ : ∃ q, ixOf (parse nw ws 0).1 (unA x) = q := ⟨_, rfl⟩
    by_cases hin : (ixOf (parse nw ws 0).1 (unA x) : Int) ∈ l
    · have h1 : mvL (parse nw ws 0).1 l x = l := mvL_no (.inr hin)
      have h2 : mvE ws (parse nw ws 0).1 l x = [] := by unfold mvE; rw [if_neg (by rintro ⟨_, h⟩; exact h hin)]
      have h3 : transW (parse nw ws 0).1 l x = 2 * (newAt (parse nw ws 0).1 l (ixOf (parse nw ws 0).1 (unA x)) : Int) := by unfold transW; rw [if_pos hr]
      have h4 := newAt_lt hw0 hO hin
      rw [h1, h2, h3, List.append_nil]
      have hhas := hN.has ((ixOf (parse nw ws 0).1 (unA x) : Nat) : Int) (by omega) (by omega)
      have hat := hN.at_ ((ixOf (parse nw ws 0).1 (unA x) : Nat) : Int) (by omega) (by omega) hin
      rw [r4] at hhas hat
      rw [show decide ((ixOf (parse nw ws 0).1 (unA x) : Int) ∈ l) = true from by simp [hin]] at hhas
      refine (mv_there w m b l.length D Aw At nw cw nt ct _ x hx.lo r1 r2 (hs.1 (blkI m 119 #[.slice Aw nw cw, .slice At nt ct, .map (some b)]) (by simp [MvI])) (hs.1 (mapJ b l.length D) (by simp [MvI])) hhas hat (by omega)).mono ?_
      rintro e w' ⟨rfl, rfl⟩
      exact ⟨D, At, nt, ct, rfl, hN, hnt, Sep.start hs⟩
    · have h1 : mvL (parse nw ws 0).1 l x = l ++ [(ixOf (parse nw ws 0).1 (unA x) : Int)] := mvL_yes hr hin
      have h2 : mvE ws (parse nw ws 0).1 l x = rawO ws (parse nw ws 0).1 1 (ixOf (parse nw ws 0).1 (unA x)) := by unfold mvE; rw [if_pos ⟨hr, hin⟩]
      have h3 : transW (parse nw ws 0).1 (l ++ [(ixOf (parse nw ws 0).1 (unA x) : Int)]) x = 2 * (nt : Int) := by unfold transW; rw [if_pos hr, newAt_last hin, hnt]
      obtain ⟨g1, g2, g3, g4, g5⟩ := rawO_len (nW := nw) (o := 1) hw0 (i := (ixOf (parse nw ws 0).1 (unA x) : Int)) (by omega) (by omega)
      have hs1 := sumO_le hw0 hO
      have hl1 := hO.len
      have hpl : (parse nw ws 0).1.length ≤ ws.length := by
        have h6 := parse_sum nw ws 0 (by omega) hw0
        have h7 : ∀ m : List (Nat × Nat), m.length ≤ (m.map fun p => 1 + p.2).sum := fun m => by
          induction m with
          | nil => simp
          | cons a m ih => simp only [List.map_cons, List.sum_cons, List.length_cons]; omega
        have := h7 (parse nw ws 0).1
        omega
      rw [h1, h2, h3]
      have hhas := hN.has ((ixOf (parse nw ws 0).1 (unA x) : Nat) : Int) (by omega) (by omega)
      rw [show decide ((ixOf (parse nw ws 0).1 (unA x) : Int) ∈ l) = false from by simp [hin]] at hhas
      have hput := hN.put (i := (ixOf (parse nw ws 0).1 (unA x) : Int)) (by omega) (by omega) hin
      rw [← hnt] at hput
      have key := mv_new w Dw m b l.length D Aw At nw cw nt ct (plc (parse nw ws 0).1 (ixOf (parse nw ws 0).1 (unA x) : Int)) (lenO (parse nw ws 0).1 (ixOf (parse nw ws 0).1 (unA x) : Int)) ws xs hs hD hW hn (by omega) (by omega) g3 g4 (by omega) hhas hN.map
      rw [show 2 * ((plc (parse nw ws 0).1 (ixOf (parse nw ws 0).1 (unA x) : Int) : Nat) : Int) = x from by omega] at key
      refine key.mono ?_
      rintro e w' ⟨A', c', rfl, hS⟩
      refine ⟨_, A', nt + (1 + lenO (parse nw ws 0).1 (ixOf (parse nw ws 0).1 (unA x) : Int)), c', rfl, hput, by rw [sumO_snoc, hnt], ?_⟩
      rw [List.length_append, List.length_singleton]
      have e9 : rawO ws (parse nw ws 0).1 1 (ixOf (parse nw ws 0).1 (unA x)) = headW (lenO (parse nw ws 0).1 (ixOf (parse nw ws 0).1 (unA x) : Int)) false (if 7 < hAge (ws.getD (plc (parse nw ws 0).1 (ixOf (parse nw ws 0).1 (unA x) : Int)) 0) + 1 then 7 else hAge (ws.getD (plc (parse nw ws 0).1 (ixOf (parse nw ws 0).1 (unA x) : Int)) 0) + 1) :: (ws.drop (plc (parse nw ws 0).1 (ixOf (parse nw ws 0).1 (unA x) : Int) + 1)).take (lenO (parse nw ws 0).1 (ixOf (parse nw ws 0).1 (unA x) : Int)) := by
        unfold rawO older headOf
        rw [← g4]
      rw [e9]
      exact hS
end Go.Proofs.Ytpbafmdebflbpaa

namespace Go.Proofs.Ytpbafmdebflbpaa
open Go.RowKit

theorem own_addr {w : World} {b e size n c : Nat} {A : Option Addr} {xs : List Value} (h : w.ownsRow b e size (.slice A n c) n xs) (hn : 0 < n) : ∃ g, A = some ⟨g, 0, none⟩ := by
  rcases h.2 with ⟨hv, _⟩ | ⟨g, cap, cur, hv, _⟩
  · injection hv with _ h1 _; omega
  · injection hv with h1 _ _; exact ⟨g, h1⟩
theorem own_cap {w : World} {b e size n c : Nat} {A : Option Addr} {xs : List Value} (h : w.ownsRow b e size (.slice A n c) n xs) : n ≤ c ∧ c ≤ 9223372036854775807 := by
  rcases h.2 with ⟨hv, hn⟩ | ⟨g, cap, cur, hv, _, _, h1, h2, _⟩
  · injection hv with _ h1 h2; omega
  · injection hv with _ _ h3; subst h3; simp only [maxLen] at h2; omega
theorem getD_get_ {d : List Int} {k : Nat} (h : k < d.length) : d.getD k 0 = d[k] := by rw [List.getD_eq_getElem?_getD, List.getElem?_eq_getElem h]; rfl
theorem set_mid_ {α : Type} (U V : List α) (x y : α) : (U ++ x :: V).set U.length y = U ++ y :: V := by simp
theorem flatMap_congr_ {α β : Type} {l : List α} {f g : α → List β} (h : ∀ a ∈ l, f a = g a) : l.flatMap f = l.flatMap g := by
  induction l with
  | nil => rfl
  | cons a l ih => rw [List.flatMap_cons, List.flatMap_cons, h a (by simp), ih (fun b hb => h b (by simp [hb]))]
theorem flatMap_range (ws : List Int) (pre : List (Nat × Nat)) : (pre.flatMap fun p => ws.getD p.1 0 :: fieldsAt ws p) = (List.range pre.length).flatMap fun i => ws.getD (pre.getD i (0, 0)).1 0 :: (ws.drop ((pre.getD i (0, 0)).1 + 1)).take (pre.getD i (0, 0)).2 := by
  have h : pre = (List.range pre.length).map fun i => pre.getD i (0, 0) := by
    refine List.ext_getElem (by simp) fun k h1 h2 => ?_
    simp [List.getD_eq_getElem?_getD, List.getElem?_eq_getElem h1]
  conv => lhs; rw [h]
  rw [List.flatMap_map]
  rfl

theorem mark_table : (List.range 8).all (fun a => (List.range 5).all fun l =>
    bits BinOp.or IntKind.u64 (headW (l : Int) false a) 256 == headW l true a && bits BinOp.or IntKind.u64 (headW (l : Int) true a) 256 == headW l true a &&
    bits BinOp.andNot IntKind.u64 (headW (l : Int) false a) 256 == headW l false a && bits BinOp.andNot IntKind.u64 (headW (l : Int) true a) 256 == headW l false a &&
    bits BinOp.and IntKind.u64 (headW (l : Int) false a) 256 == 0 && bits BinOp.and IntKind.u64 (headW (l : Int) true a) 256 == 256) = true := by decide +kernel
theorem mark_bits {len a : Int} (h1 : 0 ≤ len) (h2 : len ≤ 4) (h3 : 0 ≤ a) (h4 : a ≤ 7) (m : Bool) :
    bits BinOp.or IntKind.u64 (headW len m a) 256 = headW len true a ∧ bits BinOp.andNot IntKind.u64 (headW len m a) 256 = headW len false a ∧ bits BinOp.and IntKind.u64 (headW len m a) 256 = if m = true then 256 else 0 := by
  have h := mark_table
  simp only [List.all_eq_true, List.mem_range, Bool.and_eq_true, beq_iff_eq] at h
  have := h a.toNat (by omega) len.toNat (by omega)
  rw [show ((a.toNat : Nat) : Int) = a from by omega, show ((len.toNat : Nat) : Int) = len from by omega] at this
  obtain ⟨⟨⟨⟨⟨p1, p2⟩, p3⟩, p4⟩, p5⟩, p6⟩ := this
  cases m
  · exact ⟨p1, p3, by simpa using p5⟩
  · exact ⟨p2, p4, by simpa using p6⟩
theorem head_of {x : Int} (h : unheadOK x) : headW (hLen x) (hMark x) (hAge x) = x := by
  obtain ⟨h1, h2⟩ := h
  unfold headW hMark hLen hAge at *
  by_cases h3 : x / 256 % 2 = 1
  · rw [show (x / 256 % 2 == 1) = true from by simp [h3], if_pos rfl]; omega
  · rw [show (x / 256 % 2 == 1) = false from by simp [h3], if_neg (by simp)]; omega
theorem head_parts_ {len a : Int} (h1 : 0 ≤ len) (h2 : len ≤ 4) (h3 : 0 ≤ a) (h4 : a ≤ 7) (m : Bool) : hLen (headW len m a) = len ∧ hMark (headW len m a) = m ∧ hAge (headW len m a) = a ∧ unheadOK (headW len m a) ∧ 0 ≤ headW len m a ∧ headW len m a ≤ 18446744073709551615 := by
  unfold unheadOK hLen hMark hAge headW
  cases m
  · simp only [Bool.false_eq_true, if_false]
    refine ⟨by omega, ?_, by omega, by omega, by omega, by omega⟩
    rw [beq_eq_false_iff_ne]; omega
  · simp only [if_true]
    refine ⟨by omega, ?_, by omega, by omega, by omega, by omega⟩
    rw [beq_iff_eq]; omega

/-! ### Where objects stand. -/
theorem parse_at (f : Nat) : ∀ (ws : List Int) (a k : Nat), (∀ x ∈ ws, 0 ≤ x) → (hk : k < (parse f ws a).1.length) → ((parse f ws a).1[k]).1 = a + (((parse f ws a).1.take k).map fun p => 1 + p.2).sum := by
  induction f with
  | zero => intro ws a k _ hk; simp [parse] at hk
  | succ f ih =>
    intro ws a k hw hk
    unfold parse at hk ⊢
    split at hk
    · rename_i h1
      split at hk
      · rename_i h2
        simp only [h1, h2, if_true, and_self] at hk ⊢
        cases k with
        | zero => simp
        | succ k =>
          have := ih ws (a + 1 + (hLen (ws.getD a 0)).toNat) k hw (by simpa using hk)
          simp only [List.getElem_cons_succ, List.take_succ_cons, List.map_cons, List.sum_cons]
          rw [this]
          omega
      · simp at hk
    · simp at hk
theorem parse_cover (f : Nat) : ∀ (ws : List Int) (a : Nat), (∀ x ∈ ws, 0 ≤ x) → ws.length ≤ f + a → (parse f ws a).2 = true → ws.drop a = (parse f ws a).1.flatMap fun p => ws.getD p.1 0 :: fieldsAt ws p := by
  induction f with
  | zero =>
    intro ws a _ h _
    simp only [parse, List.flatMap_nil]
    exact List.drop_of_length_le (by omega)
  | succ f ih =>
    intro ws a hw hl h
    unfold parse at h ⊢
    split at h
    · rename_i h1
      split at h
      · rename_i h2
        rw [if_pos h1, if_pos h2]
        have h3 := ih ws (a + 1 + (hLen (ws.getD a 0)).toNat) hw (by omega) h
        simp only [List.flatMap_cons]
        rw [← h3]
        unfold fieldsAt
        have h4 : ws.getD a 0 = ws[a] := getD_get_ h1
        rw [List.drop_eq_getElem_cons h1, ← h4, List.cons_append]
        congr 1
        conv => lhs; rw [← List.take_append_drop (hLen (ws.getD a 0)).toNat (ws.drop (a + 1)), List.drop_drop]
      · simp at h
    · rename_i h1
      rw [if_neg h1]
      exact List.drop_of_length_le (by omega)

/-! ### Words with marks. -/
def lenN (pre : List (Nat × Nat)) (i : Nat) : Nat := (pre.getD i (0, 0)).2
def plcN (pre : List (Nat × Nat)) (i : Nat) : Nat := (pre.getD i (0, 0)).1
def ageN (ws : List Int) (pre : List (Nat × Nat)) (i : Nat) : Int := hAge (ws.getD (plcN pre i) 0)
def fldN (ws : List Int) (pre : List (Nat × Nat)) (i : Nat) : List Int := (ws.drop (plcN pre i + 1)).take (lenN pre i)
def mkB (ws : List Int) (pre : List (Nat × Nat)) (S : Nat → Bool) (i : Nat) : List Int := headW (lenN pre i) (S i) (ageN ws pre i) :: fldN ws pre i
def mkW (ws : List Int) (pre : List (Nat × Nat)) (S : Nat → Bool) : List Int := (List.range pre.length).flatMap (mkB ws pre S)
def addS (S : Nat → Bool) (i : Nat) (b : Bool) : Nat → Bool := fun j => if j = i then b else S j
theorem range_split (n i : Nat) (h : i < n) : List.range n = List.range i ++ i :: (List.range' (i + 1) (n - i - 1)) := by
  obtain ⟨m, rfl⟩ : ∃ m, n = i + (m + 1) := ⟨n - i - 1, by omega⟩
  rw [show i + (m + 1) - i - 1 = m from by omega, List.range_eq_range', List.range_eq_range', ← List.range'_append_1, Nat.zero_add, List.range'_succ]
theorem mkW_congr (ws : List Int) (pre : List (Nat × Nat)) {S T : Nat → Bool} (h : ∀ i, i < pre.length → S i = T i) : mkW ws pre S = mkW ws pre T := by
  unfold mkW
  refine flatMap_congr_ fun i hi => ?_
  unfold mkB
  rw [h i (List.mem_range.1 hi)]
structure ArnOk (nW : Nat) (ws : List Int) : Prop where
  len : ws.length = nW
  max : nW ≤ 256
  pos : ∀ x ∈ ws, 0 ≤ x
  ok : (parse nW ws 0).2 = true
section
variable {nW : Nat} {ws : List Int} {S : Nat → Bool} {i j : Nat}
theorem ArnOk.obj (h : ArnOk nW ws) (hi : i < (parse nW ws 0).1.length) : plcN (parse nW ws 0).1 i < nW ∧ unheadOK (ws.getD (plcN (parse nW ws 0).1 i) 0) ∧ hLen (ws.getD (plcN (parse nW ws 0).1 i) 0) = (lenN (parse nW ws 0).1 i : Int) ∧ plcN (parse nW ws 0).1 i + 1 + lenN (parse nW ws 0).1 i ≤ nW ∧ lenN (parse nW ws 0).1 i ≤ 4 ∧ 0 ≤ ageN ws (parse nW ws 0).1 i ∧ ageN ws (parse nW ws 0).1 i ≤ 7 := by
  obtain ⟨h1, h2, h3, h4⟩ := parse_mem nW ws 0 _ h.pos (List.getElem_mem hi)
  have e : (parse nW ws 0).1.getD i (0, 0) = (parse nW ws 0).1[i] := by rw [List.getD_eq_getElem?_getD, List.getElem?_eq_getElem hi]; rfl
  unfold plcN lenN ageN plcN hAge
  rw [e]
  have := h2.1
  rw [h.len] at h1 h4
  refine ⟨h1, h2, h3, h4, by omega, by omega, by omega⟩
theorem ArnOk.fld (h : ArnOk nW ws) (hi : i < (parse nW ws 0).1.length) : (fldN ws (parse nW ws 0).1 i).length = lenN (parse nW ws 0).1 i := by
  have := h.obj hi
  have := h.len
  unfold fldN
  rw [List.length_take, List.length_drop]
  omega
theorem ArnOk.before (h : ArnOk nW ws) (hi : i < (parse nW ws 0).1.length) (T : Nat → Bool) : ((List.range i).flatMap (mkB ws (parse nW ws 0).1 T)).length = plcN (parse nW ws 0).1 i := by
  have h1 := parse_at nW ws 0 i h.pos hi
  have e : plcN (parse nW ws 0).1 i = ((parse nW ws 0).1[i]).1 := by unfold plcN; rw [List.getD_eq_getElem?_getD, List.getElem?_eq_getElem hi]; rfl
  rw [e, h1, Nat.zero_add]
  have key : ∀ k, k ≤ (parse nW ws 0).1.length → ((List.range k).flatMap (mkB ws (parse nW ws 0).1 T)).length = (((parse nW ws 0).1.take k).map fun p => 1 + p.2).sum := by
    intro k
    induction k with
    | zero => intro _; rfl
    | succ k ih =>
      intro hk
      have hf := h.fld (i := k) (by omega)
      rw [List.range_succ, List.flatMap_append, List.length_append, ih (by omega), List.take_succ_eq_append_getElem (by omega), List.map_append, List.sum_append]
      simp only [List.flatMap_cons, List.flatMap_nil, List.append_nil, List.map_cons, List.map_nil, List.sum_cons, List.sum_nil]
      unfold mkB
      rw [List.length_cons, hf]
      have : lenN (parse nW ws 0).1 k = ((parse nW ws 0).1[k]).2 := by unfold lenN; rw [List.getD_eq_getElem?_getD, List.getElem?_eq_getElem (by omega)]; rfl
      omega
  exact key i (by omega)
/-- The words fall into what lies before an object, it, and what lies behind. -/
theorem mkW_split (S : Nat → Bool) (pre : List (Nat × Nat)) (hi : i < pre.length) : mkW ws pre S = (List.range i).flatMap (mkB ws pre S) ++ headW (lenN pre i) (S i) (ageN ws pre i) :: (fldN ws pre i ++ (List.range' (i + 1) (pre.length - i - 1)).flatMap (mkB ws pre S)) := by
  unfold mkW
  rw [range_split _ i hi, List.flatMap_append, List.flatMap_cons]
  rfl
theorem ArnOk.head (h : ArnOk nW ws) (hi : i < (parse nW ws 0).1.length) (S : Nat → Bool) : (mkW ws (parse nW ws 0).1 S)[plcN (parse nW ws 0).1 i]? = some (headW (lenN (parse nW ws 0).1 i) (S i) (ageN ws (parse nW ws 0).1 i)) := by
  rw [mkW_split S _ hi, ← h.before hi S]
  simp
theorem ArnOk.field (h : ArnOk nW ws) (hi : i < (parse nW ws 0).1.length) (hj : j < lenN (parse nW ws 0).1 i) (S : Nat → Bool) : (mkW ws (parse nW ws 0).1 S)[plcN (parse nW ws 0).1 i + 1 + j]? = (fldN ws (parse nW ws 0).1 i)[j]? := by
  have hf := h.fld hi
  rw [mkW_split S _ hi, List.getElem?_append_right (by rw [h.before hi S]; omega), h.before hi S, show plcN (parse nW ws 0).1 i + 1 + j - plcN (parse nW ws 0).1 i = j + 1 from by omega, List.getElem?_cons_succ, List.getElem?_append_left (by omega)]
theorem ArnOk.set (h : ArnOk nW ws) (hi : i < (parse nW ws 0).1.length) (S : Nat → Bool) (b : Bool) : (mkW ws (parse nW ws 0).1 S).set (plcN (parse nW ws 0).1 i) (headW (lenN (parse nW ws 0).1 i) b (ageN ws (parse nW ws 0).1 i)) = mkW ws (parse nW ws 0).1 (addS S i b) := by
  rw [mkW_split S _ hi, mkW_split (addS S i b) _ hi, ← h.before hi S, set_mid_]
  have h1 : ∀ l : List Nat, i ∉ l → l.flatMap (mkB ws (parse nW ws 0).1 S) = l.flatMap (mkB ws (parse nW ws 0).1 (addS S i b)) := by
    intro l hl
    induction l with
    | nil => rfl
    | cons a l ih =>
      rw [List.flatMap_cons, List.flatMap_cons, ih (fun h => hl (by simp [h]))]
      congr 1
      unfold mkB addS
      rw [if_neg (fun e => hl (by simp [e]))]
  rw [← h1 _ (by simp), ← h1 _ (by simp [List.mem_range']; omega)]
  unfold addS
  rw [if_pos rfl]
theorem ArnOk.length (h : ArnOk nW ws) (S : Nat → Bool) : (mkW ws (parse nW ws 0).1 S).length = nW := by
  have h1 := parse_cover nW ws 0 h.pos (by rw [h.len]; omega) h.ok
  rw [List.drop_zero] at h1
  have h2 : (mkW ws (parse nW ws 0).1 S).length = ((parse nW ws 0).1.flatMap fun p => ws.getD p.1 0 :: fieldsAt ws p).length := by
    have h3 : ((parse nW ws 0).1.flatMap fun p => ws.getD p.1 0 :: fieldsAt ws p) = (List.range (parse nW ws 0).1.length).flatMap fun i => ws.getD (plcN (parse nW ws 0).1 i) 0 :: fldN ws (parse nW ws 0).1 i := flatMap_range _ _
    rw [h3]
    unfold mkW mkB
    rw [List.length_flatMap, List.length_flatMap]
    congr 1
  rw [h2, ← h1, h.len]
/-- The words as they stand. -/
theorem ArnOk.self (h : ArnOk nW ws) : mkW ws (parse nW ws 0).1 (fun i => hMark (ws.getD (plcN (parse nW ws 0).1 i) 0)) = ws := by
  have h1 := parse_cover nW ws 0 h.pos (by rw [h.len]; omega) h.ok
  rw [List.drop_zero] at h1
  have h3 : ((parse nW ws 0).1.flatMap fun p => ws.getD p.1 0 :: fieldsAt ws p) = (List.range (parse nW ws 0).1.length).flatMap fun i => ws.getD (plcN (parse nW ws 0).1 i) 0 :: fldN ws (parse nW ws 0).1 i := flatMap_range _ _
  conv => rhs; rw [h1, h3]
  unfold mkW
  refine flatMap_congr_ fun i hi => ?_
  obtain ⟨_, h5, h6, _⟩ := h.obj (List.mem_range.1 hi)
  unfold mkB ageN
  rw [← h6, head_of h5]
end
end Go.Proofs.Ytpbafmdebflbpaa

namespace Go.Proofs.Ytpbafmdebflbpaa
open Go.RowKit

set_option maxHeartbeats 400000 in
theorem bit_any (w : World) (x y : Int) (h : bits BinOp.and IntKind.u64 x 256 = y) :
    Calls Try.prog 84 #[.int .u64 x] w fun e w' => e = .returned (.bool (y != 0)) ∧ w' = w := by
  go_enter Try.func84, Try.ntmps84
  go_wp2
  go_ret
  first | exact ⟨rfl, rfl⟩ | exact rfl
set_option maxHeartbeats 400000 in
theorem set_on (w : World) (x y : Int) (h : bits BinOp.or IntKind.u64 x 256 = y) :
    Calls Try.prog 111 #[.int .u64 x, .bool true] w fun e w' => e = .returned (.int .u64 y) ∧ w' = w := by
  go_enter Try.func111, Try.ntmps111
  go_wp2
  go_ret
  first | exact ⟨rfl, rfl⟩ | exact rfl
set_option maxHeartbeats 400000 in
theorem set_off (w : World) (x y : Int) (h : bits BinOp.andNot IntKind.u64 x 256 = y) :
    Calls Try.prog 111 #[.int .u64 x, .bool false] w fun e w' => e = .returned (.int .u64 y) ∧ w' = w := by
  go_enter Try.func111, Try.ntmps111
  go_wp2
  go_ret
  first | exact ⟨rfl, rfl⟩ | exact rfl

set_option maxRecDepth 100000 in
set_option maxHeartbeats 4000000 in
/-- The fields of an object, where they stand. -/
theorem fieldsAt_any (w : World) (g nw cw at_ len : Nat) (x : Int) (hc0 : w.cell? ⟨g, at_, none⟩ = some (.int .u64 x)) (hx : 0 ≤ x ∧ x ≤ 18446744073709551615) (hn : nw ≤ 256) (hc1 : nw ≤ cw) (hc2 : cw ≤ 9223372036854775807) (hok : unheadOK x) (hlen : hLen x = (len : Int)) (hl : at_ + 1 + len ≤ nw) :
    Calls Try.prog 79 #[.slice (some ⟨g, 0, none⟩) nw cw, .int .i64 at_] w fun e w' => ∃ (A : Option Addr) (c : Nat),
      e = .returned (.slice A len c) ∧ Below w.heap.size w w' ∧ (0 < len → A = some ⟨g, at_ + 1, none⟩) := by
  have hlt : at_ < nw := by omega
  have C := fun w' => unheadP_ok w' x hx.1 hx.2 hok
  rw [hlen] at C
  have C1 := hide C
  have hl4 : len ≤ 4 := by have := hok.1; omega
  clear C hlen hok hx
  go_enter Try.func79, Try.ntmps79
  go_wp2_with fail
  refine (C1.out _).mono ?_
  rintro e w1 ⟨rfl, hb1⟩
  have hz := hb1.size
  by_cases hcc : cw = at_ + 1
  · have hl0 : len = 0 := by omega
    subst hl0
    go_wp2_with fail
    go_ret
    exact ⟨_, 0, rfl, hb1.alloc hz _, fun h => absurd h (by omega)⟩
  · have H8 := hide (show at_ + 1 + len - (at_ + 1) = len by omega)
    go_wp2_with fail
    go_ret
    exact ⟨_, cw - (at_ + 1), Eq.trans (b := Ending.returned (.slice (some ⟨g, 0 + (at_ + 1), none⟩) (at_ + 1 + len - (at_ + 1)) (cw - (at_ + 1)))) (by first | rfl | simp) (by rw [H8.out]), hb1.alloc hz _, fun _ => by simp⟩
end Go.Proofs.Ytpbafmdebflbpaa
