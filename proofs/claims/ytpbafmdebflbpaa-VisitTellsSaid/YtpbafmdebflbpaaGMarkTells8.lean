/- arena: words as values, by the places of objects: the reference's unpacked. arena: the program's Fields. arena: what an arena that may be has: places that rise, references that go to places. -/
import Derived.Test.YtpbafmdebflbpaaGMarkTells7
import Derived.Test.YtpbafmdebflbpaaGMarkTells4
set_option linter.unusedSimpArgs false
set_option linter.unusedVariables false
namespace Go.Proofs.Ytpbafmdebflbpaa
open Go.RowKit

def turnW (ix : Int → Nat) (x : Int) : Val := (unR x, if unR x = true then (ix (unA x) : Int) else unA x)

set_option maxRecDepth 100000 in
set_option maxHeartbeats 4000000 in
theorem unpacked_any (w : World) (A As : Option Addr) (n c ns cs : Nat) (ws sts : List Int) (ix : Int → Nat) (hn : n ≤ 1000) (hns : ns ≤ 1000) (hW : Rd w (fun _ => True) 1 A n (u64s ws)) (hws : ∀ x ∈ ws, 0 ≤ x ∧ x ≤ 18446744073709551615) (hE : ∀ x ∈ ws, unE x = 0) (hS : Rd w (fun _ => True) 1 As ns (ints sts))
    (hm : ∀ (i j : Nat) (a b : Int), i < j → sts[i]? = some a → sts[j]? = some b → a < b) (hix : ∀ x ∈ ws, unR x = true → ix (unA x) < ns ∧ sts[ix (unA x)]? = some (unA x)) :
    Calls Try.prog 81 #[.slice A n c, .slice As ns cs] w fun e w' => ∃ A' c', e = .returned (.slice A' n c') ∧ Sep No w w' [rowI 32 2 A' n c' (vals (ws.map (turnW ix)))] := by
  have HLL := hide (show ws.length = n by have := hW.1; simpa [u64s] using this)
  have HM := hide hm
  have HIX := hide hix
  have HE := hide hE
  have HWS := hide hws
  have HS0 := hide ((Sep.nil No w).nilRow 32 2)
  clear hm hix hE hws
  go_enter Try.func81, Try.ntmps81
  go_wp2_with fail
  go_loopw [5, 12] (fun s5 i wr => ∃ (k : Nat) (A' : Option Addr) (c' : Nat), k ≤ n ∧ i = .int .i64 k ∧ s5 = .slice A' k c' ∧ Sep No w wr [rowI 32 2 A' k c' (vals ((ws.take k).map (turnW ix)))]) (fun _ i _ => n - (intOf i).toNat)
  case atStart => exact ⟨0, none, 0, by omega, rfl, rfl, HS0.out⟩
  case round =>
    clear HS0
    obtain ⟨k, A', c', hk, rfl, rfl, hQ⟩ := hrel
    by_cases hlt : k < n
    · have hkl : k < ws.length := by rw [HLL.out]; exact hlt
      obtain ⟨ad, hA, _, had, hc⟩ := (hW.below hQ.below_).at_ hlt
      have e0 := hc (.int .u64 ws[k]) (by simp [u64s, List.getElem?_eq_getElem hkl])
      have hb := HWS.out _ (List.getElem_mem hkl)
      have he := HE.out _ (List.getElem_mem hkl)
      have hi := HIX.out _ (List.getElem_mem hkl)
      have HT := hide (List.take_succ_eq_append_getElem hkl)
      obtain ⟨x, hx⟩ : ∃ x, ws[k] = x := ⟨_, rfl⟩
      rw [hx] at e0 hb he hi HT
      obtain ⟨b1, b2⟩ := hb
      have C := fun w' => unpackR_any w' x b1 b2
      rw [he] at C
      rw [hA]
      have HA := hide hA
      clear hc hx he hA
      cases hr : unR x with
      | false =>
        rw [hr] at C
        have HX := hide (show turnW ix x = (false, unA x) from by unfold turnW; rw [hr]; rfl)
        have C1 := hide C
        clear C hi hr
        go_wp2_with fail
        refine (C1.out _).mono ?_
        rintro e w3 ⟨rfl, hB3⟩
        have hQ3 := (hQ.below hB3)
        go_wp2_with (first
          | (at_builtin
             refine wpList_app1 (cs := #[.bool false, .int .i64 (unA x)]) rfl (.tmp 28) (.tmp 30) 50 rfl sVal (hQ3.alloc _) 0 (n := k) rfl rfl rfl (by simp) rfl rfl (by omega) ?_
             intro A4 c4 w4 hS4 hC4))
        go_roundw
        case rel => exact ⟨k + 1, A4, c4, by omega, by go_num, rfl, by rw [HT.out, List.map_append, List.map_cons, List.map_nil, HX.out, vals_snoc]; exact hS4⟩
        case measure => simp [intOf]; omega
      | true =>
        rw [hr] at C
        obtain ⟨hi1, hi2⟩ := hi hr
        have HX := hide (show turnW ix x = (true, (ix (unA x) : Int)) from by unfold turnW; rw [hr]; rfl)
        obtain ⟨q, hq⟩ : ∃ q, ix (unA x) = q := ⟨_, rfl⟩
        rw [hq] at hi1 hi2 HX
        have C1 := hide C
        have C2 := hide (fun w' (hb : Below w.heap.size w w') => place_any w' As ns cs q sts (unA x) hns (hS.below hb) hi1 hi2 HM.out)
        clear C hi hr hq hi2
        go_wp2_with fail
        refine (C1.out _).mono ?_
        rintro e w3 ⟨rfl, hB3⟩
        have hQ3 := (hQ.below hB3).alloc (.cells #[.bool true, .int .i64 (unA x)] 32)
        go_wp2_with fail
        refine (C2.out _ hQ3.below_).mono ?_
        rintro e w5 ⟨rfl, rfl⟩
        have hQ4 := (hQ.below hB3)
        go_wp2_with (first
          | (at_builtin
             refine wpList_app1 (cs := #[.bool true, .int .i64 q]) rfl (.tmp 28) (.tmp 30) 50 rfl sVal (hQ4.alloc _) 0 (n := k) rfl rfl rfl (by simp) rfl rfl (by omega) ?_
             intro A4 c4 w4 hS4 hC4))
        go_roundw
        case rel => exact ⟨k + 1, A4, c4, by omega, by go_num, rfl, by rw [HT.out, List.map_append, List.map_cons, List.map_nil, HX.out, vals_snoc]; exact hS4⟩
        case measure => simp [intOf]; omega
    · obtain rfl : k = n := by omega
      rw [show ws.take k = ws from List.take_of_length_le (by rw [HLL.out]; omega)] at hQ
      go_wp2_with fail
      go_ret
      exact ⟨A', c', rfl, hQ⟩
set_option maxRecDepth 100000 in
set_option maxHeartbeats 4000000 in
theorem readv_any (w : World) (bl : Nat) (A As : Option Addr) (n c ns cs : Nat) (ws sts : List Int) (ix : Int → Nat) (hn : n ≤ 1000) (hns : ns ≤ 1000) (hW : Rd w (fun _ => True) 1 A n (u64s ws)) (hws : ∀ x ∈ ws, 0 ≤ x ∧ x ≤ 18446744073709551615) (hE : ∀ x ∈ ws, unE x = 0) (hS : Rd w (fun _ => True) 1 As ns (ints sts)) (hbl : Blk w bl 40 #[.slice As ns cs])
    (hm : ∀ (i j : Nat) (a b : Int), i < j → sts[i]? = some a → sts[j]? = some b → a < b) (hix : ∀ x ∈ ws, unR x = true → ix (unA x) < ns ∧ sts[ix (unA x)]? = some (unA x)) :
    Calls Try.prog 77 #[.slice A n c, .pointer (some ⟨bl, 0, none⟩)] w fun e w' => ∃ A' c', e = .returned (.slice A' n c') ∧ Sep No w w' [rowI 32 2 A' n c' (vals (ws.map (turnW ix)))] := by
  have HLL := hide (show ws.length = n by have := hW.1; simpa [u64s] using this)
  have HM := hide hm
  have HIX := hide hix
  have HE := hide hE
  have HWS := hide hws
  have HS0 := hide ((Sep.nil No w).nilRow 32 2)
  clear hm hix hE hws
  go_enter Try.func77, Try.ntmps77
  go_wp2_with fail
  go_loopw [4, 13] (fun s5 i wr => ∃ (k : Nat) (A' : Option Addr) (c' : Nat), k ≤ n ∧ i = .int .i64 k ∧ s5 = .slice A' k c' ∧ Sep No w wr [rowI 32 2 A' k c' (vals ((ws.take k).map (turnW ix)))]) (fun _ i _ => n - (intOf i).toNat)
  case atStart => exact ⟨0, none, 0, by omega, rfl, rfl, HS0.out⟩
  case round =>
    clear HS0
    obtain ⟨k, A', c', hk, rfl, rfl, hQ⟩ := hrel
    by_cases hlt : k < n
    · have hkl : k < ws.length := by rw [HLL.out]; exact hlt
      obtain ⟨ad, hA, _, had, hc⟩ := (hW.below hQ.below_).at_ hlt
      have e0 := hc (.int .u64 ws[k]) (by simp [u64s, List.getElem?_eq_getElem hkl])
      have hb := HWS.out _ (List.getElem_mem hkl)
      have he := HE.out _ (List.getElem_mem hkl)
      have hi := HIX.out _ (List.getElem_mem hkl)
      have HT := hide (List.take_succ_eq_append_getElem hkl)
      obtain ⟨x, hx⟩ : ∃ x, ws[k] = x := ⟨_, rfl⟩
      rw [hx] at e0 hb he hi HT
      obtain ⟨b1, b2⟩ := hb
      have C := fun w' => unpackP_any w' x b1 b2
      rw [he] at C
      rw [hA]
      have HA := hide hA
      clear hc hx he hA
      cases hr : unR x with
      | false =>
        rw [hr] at C
        have HX := hide (show turnW ix x = (false, unA x) from by unfold turnW; rw [hr]; rfl)
        have C1 := hide C
        clear C hi hr
        go_wp2_with fail
        refine (C1.out _).mono ?_
        rintro e w3 ⟨rfl, hB3⟩
        have hQ3 := (hQ.below hB3)
        go_wp2_with (first
          | (at_builtin
             refine wpList_app1 (cs := #[.bool false, .int .i64 (unA x)]) rfl (.tmp 33) (.tmp 35) 50 rfl sVal (hQ3.alloc _) 0 (n := k) rfl rfl rfl (by simp) rfl rfl (by omega) ?_
             intro A4 c4 w4 hS4 hC4))
        go_roundw
        case rel => exact ⟨k + 1, A4, c4, by omega, by go_num, rfl, by rw [HT.out, List.map_append, List.map_cons, List.map_nil, HX.out, vals_snoc]; exact hS4⟩
        case measure => simp [intOf]; omega
      | true =>
        rw [hr] at C
        obtain ⟨hi1, hi2⟩ := hi hr
        have HX := hide (show turnW ix x = (true, (ix (unA x) : Int)) from by unfold turnW; rw [hr]; rfl)
        obtain ⟨q, hq⟩ : ∃ q, ix (unA x) = q := ⟨_, rfl⟩
        rw [hq] at hi1 hi2 HX
        have C1 := hide C
        have C2 := hide (fun w' (hb : Below w.heap.size w w') => bsearch_any w' As ns cs q sts (unA x) hns (hS.below hb) hi1 hi2 HM.out)
        clear C hi hr hq hi2
        go_wp2_with fail
        refine (C1.out _).mono ?_
        rintro e w3 ⟨rfl, hB3⟩
        have hQ3 := (hQ.below hB3).alloc (.cells #[.bool true, .int .i64 (unA x)] 32)
        obtain ⟨l1, l2, l3⟩ := ((hbl.below_ ((hQ.below hB3).below_))).rules
        have l5 : w3.cell? ⟨bl, 0, none⟩ = some (.slice As ns cs) := by rw [l1]; rfl
        clear l1
        go_wp2_with fail
        refine (C2.out _ hQ3.below_).mono ?_
        rintro e w5 ⟨rfl, rfl⟩
        have hQ4 := (hQ.below hB3)
        go_wp2_with (first
          | (at_builtin
             refine wpList_app1 (cs := #[.bool true, .int .i64 q]) rfl (.tmp 33) (.tmp 35) 50 rfl sVal (hQ4.alloc _) 0 (n := k) rfl rfl rfl (by simp) rfl rfl (by omega) ?_
             intro A4 c4 w4 hS4 hC4))
        go_roundw
        case rel => exact ⟨k + 1, A4, c4, by omega, by go_num, rfl, by rw [HT.out, List.map_append, List.map_cons, List.map_nil, HX.out, vals_snoc]; exact hS4⟩
        case measure => simp [intOf]; omega
    · obtain rfl : k = n := by omega
      rw [show ws.take k = ws from List.take_of_length_le (by rw [HLL.out]; omega)] at hQ
      go_wp2_with fail
      go_ret
      exact ⟨A', c', rfl, hQ⟩
end Go.Proofs.Ytpbafmdebflbpaa

namespace Go.Proofs.Ytpbafmdebflbpaa
open Go.RowKit

set_option maxRecDepth 100000 in
set_option maxHeartbeats 4000000 in
theorem fields_any (w : World) (Aw : Option Addr) (nw cw at_ len : Nat) (ws : List Int) (hW : WsIn w Aw nw cw ws) (hn : nw ≤ 256) (hok : unheadOK (ws.getD at_ 0)) (hlen : hLen (ws.getD at_ 0) = (len : Int)) (hl : at_ + 1 + len ≤ nw) :
    Calls Try.prog 79 #[.slice Aw nw cw, .int .i64 at_] w fun e w' => ∃ (A : Option Addr) (c : Nat),
      e = .returned (.slice A len c) ∧ Below w.heap.size w w' ∧ Rd w (fun _ => True) 1 A len (u64s ((ws.drop (at_ + 1)).take len)) := by
  have HWL := hide hW.len
  have hcap := hW.cap
  have hlt : at_ < nw := by omega
  have hkl : at_ < ws.length := by rw [HWL.out]; exact hlt
  obtain ⟨ad, hA, _, had, hc⟩ := hW.rd.at_ hlt
  have e0 := hc (.int .u64 ws[at_]) (by simp [u64s, List.getElem?_eq_getElem hkl])
  have hb := hW.wf _ (List.getElem_mem hkl)
  have hgd : ws.getD at_ 0 = ws[at_] := by rw [List.getD_eq_getElem?_getD, List.getElem?_eq_getElem hkl]; rfl
  obtain ⟨x, hx⟩ : ∃ x, ws[at_] = x := ⟨_, rfl⟩
  rw [hgd, hx] at hok hlen
  rw [hx] at e0 hb
  obtain ⟨b1, b2⟩ := hb
  subst hA
  have C := fun w' => unheadP_ok w' x b1 b2 hok
  rw [hlen] at C
  have C1 := hide C
  have hl4 : len ≤ 4 := by have := hok.1; omega
  have HR : Rd w (fun _ => True) 1 (if cw = at_ + 1 then some ad else some (ad.add (at_ + 1))) len (u64s ((ws.drop (at_ + 1)).take len)) := by
    have h6 := (hW.rd.cut (k := at_ + 1) (cap := cw) (by omega) hcap.1).take (k := len) (by omega)
    have e6 : ((u64s ws).drop ((at_ + 1) * 1)).take (len * 1) = u64s ((ws.drop (at_ + 1)).take len) := by
      rw [Nat.mul_one, Nat.mul_one]
      unfold u64s; rw [List.map_take, List.map_drop]
    rw [e6, Nat.mul_one] at h6
    exact h6
  have HRH := hide HR
  obtain ⟨hc1, hc2⟩ := hcap
  clear C hlen hok hc hgd hx HR hW
  go_enter Try.func79, Try.ntmps79
  go_wp2_with fail
  refine (C1.out _).mono ?_
  rintro e w1 ⟨rfl, hb1⟩
  have hz := hb1.size
  by_cases hcc : cw = at_ + 1
  · have h7 := HRH.out
    rw [if_pos hcc] at h7
    have H7 := hide h7
    have hl0 : len = 0 := by omega
    subst hl0
    clear h7 HRH
    go_wp2_with fail
    go_ret
    exact ⟨some ad, 0, rfl, hb1.alloc hz _, H7.out⟩
  · have h7 := HRH.out
    rw [if_neg hcc, show ad.add (at_ + 1) = ⟨ad.block, ad.off + (at_ + 1), none⟩ from by simp [Addr.add]] at h7
    have H7 := hide h7
    have H8 := hide (show at_ + 1 + len - (at_ + 1) = len by omega)
    clear h7 HRH
    go_wp2_with fail
    go_ret
    exact ⟨_, cw - (at_ + 1), Eq.trans (b := Ending.returned (.slice (some ⟨ad.block, ad.off + (at_ + 1), none⟩) (at_ + 1 + len - (at_ + 1)) (cw - (at_ + 1)))) rfl (by rw [H8.out]), hb1.alloc hz _, H7.out⟩
end Go.Proofs.Ytpbafmdebflbpaa

namespace Go.Proofs.Ytpbafmdebflbpaa
open Go.RowKit

theorem parse_low (f : Nat) : ∀ (ws : List Int) (a : Nat) (p : Nat × Nat), p ∈ (parse f ws a).1 → a ≤ p.1 := by
  induction f with
  | zero => intro ws a p h; simp [parse] at h
  | succ f ih =>
    intro ws a p h
    unfold parse at h
    split at h
    · split at h
      · rcases List.mem_cons.1 h with rfl | h3
        · exact Nat.le_refl _
        · have := ih ws _ p h3
          omega
      · simp at h
    · simp at h
theorem parse_rise (f : Nat) : ∀ (ws : List Int) (a : Nat), (parse f ws a).1.Pairwise fun p q => p.1 < q.1 := by
  induction f with
  | zero => intro ws a; simp [parse]
  | succ f ih =>
    intro ws a
    unfold parse
    split
    · split
      · refine List.Pairwise.cons (fun q hq => ?_) (ih ws _)
        have := parse_low _ _ _ _ hq
        dsimp only
        omega
      · simp
    · simp
theorem places_rise (nW : Nat) (ws : List Int) (i j : Nat) (x y : Int) (hij : i < j) (hi : (placesOf (parse nW ws 0).1)[i]? = some x) (hj : (placesOf (parse nW ws 0).1)[j]? = some y) : x < y := by
  have h : (placesOf (parse nW ws 0).1).Pairwise (· < ·) := by
    unfold placesOf
    rw [List.pairwise_map]
    exact (parse_rise nW ws 0).imp (fun h => by omega)
  obtain ⟨hi1, rfl⟩ := List.getElem?_eq_some_iff.1 hi
  obtain ⟨hj1, rfl⟩ := List.getElem?_eq_some_iff.1 hj
  exact List.pairwise_iff_getElem.1 h i j hi1 hj1 hij

/-- The number of the object that begins at a place. -/
def ixOf (l : List (Nat × Nat)) (x : Int) : Nat := l.findIdx fun p => (p.1 : Int) == x
theorem ixOf_of_any {l : List (Nat × Nat)} {x : Int} (h : l.any (fun p => (p.1 : Int) == x) = true) : ixOf l x < l.length ∧ (placesOf l)[ixOf l x]? = some x := by
  obtain ⟨p, hp, hpx⟩ := List.any_eq_true.1 h
  have hlt : ixOf l x < l.length := List.findIdx_lt_length_of_exists ⟨p, hp, hpx⟩
  refine ⟨hlt, ?_⟩
  have h2 : ((l[ixOf l x].1 : Int) == x) = true := List.findIdx_getElem (w := hlt)
  unfold placesOf
  rw [List.getElem?_map, List.getElem?_eq_getElem hlt]
  simpa using h2
/-- Words that may be. -/
structure GoodWs (l : List (Nat × Nat)) (xs : List Int) : Prop where
  e : ∀ x ∈ xs, unE x = 0
  ix : ∀ x ∈ xs, unR x = true → ixOf l (unA x) < l.length ∧ (placesOf l)[ixOf l (unA x)]? = some (unA x)
theorem GoodWs.sub {l : List (Nat × Nat)} {xs ys : List Int} (h : GoodWs l xs) (hs : ∀ x ∈ ys, x ∈ xs) : GoodWs l ys := ⟨fun x hx => h.e x (hs x hx), fun x hx => h.ix x (hs x hx)⟩
theorem good_of_check {l : List (Nat × Nat)} {xs : List Int} (h : xs.any (badWord l) = false) : GoodWs l xs := by
  have key : ∀ x ∈ xs, badWord l x = false := fun x hx => by
    cases hb : badWord l x with
    | false => rfl
    | true => rw [List.any_eq_true.2 ⟨x, hx, hb⟩] at h; cases h
  refine ⟨fun x hx => ?_, fun x hx hr => ?_⟩
  · have := key x hx
    unfold badWord at this
    simp at this
    exact this.1
  · have := key x hx
    unfold badWord at this
    rw [hr] at this
    simp only [Bool.true_and, Bool.or_eq_false_iff, Bool.not_eq_false'] at this
    exact ixOf_of_any this.2

def fieldsAt (ws : List Int) (p : Nat × Nat) : List Int := (ws.drop (p.1 + 1)).take p.2
def graphOf (ws : List Int) (l : List (Nat × Nat)) : List (List Val) := l.map fun p => (fieldsAt ws p).map (turnW (ixOf l))
end Go.Proofs.Ytpbafmdebflbpaa
