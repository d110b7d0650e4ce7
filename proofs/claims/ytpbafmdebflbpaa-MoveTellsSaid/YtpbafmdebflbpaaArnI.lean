/- arena: words as values, by the places of objects: the reference's unpacked. -/
import Derived.Test.YtpbafmdebflbpaaArnH
namespace Go.Proofs.Ytpbafmdebflbpaa
open Go.RowKit

def turnW (ix : Int → Nat) (x : Int) : Val := (unR x, if unR x = true then (ix (unA x) : Int) else unA x)

set_option maxRecDepth 100000 in
set_option maxHeartbeats 4000000 in
theorem unpacked_any (w : World) (A As : Option Addr) (n c ns cs : Nat) (ws sts : List Int) (ix : Int → Nat) (hn : n ≤ 1000) (hns : ns ≤ 1000) (hW : Rd w (fun _ => True) 1 A n (u64s ws)) (hws : ∀ x ∈ ws, 0 ≤ x ∧ x ≤ 18446744073709551615) (hE : ∀ x ∈ ws, unE x = 0) (hS : Rd w (fun _ => True) 1 As ns (ints sts))
    (hm : ∀ (i j : Nat) (a b : Int), i < j → sts[i]? = some a → sts[j]? = some b → a < b) (hix : ∀ x ∈ ws, unR x = true → ix (unA x) < ns ∧ sts[ix (unA x)]? = some (unA x)) :
    Calls Try.prog 81 #[.slice A n c, .slice As ns cs] w fun e w' => ∃ A' c', e = .returned (.slice A' n c') ∧ Sep No w w' [rowI 32 2 A' n c' (vals (ws.map (turnW ix)))] := by
  have HLL := hide (show ws.length = n by have := hW.1; simpa [u64s] using this)
  have HM := hide hm
  have HIX := hide hix
  have HE := hide hE
  have HWS := hide hws
  have HS0 := hide ((Sep.nil No w).nilRow 32 2)
  clear hm hix hE hws
  go_enter Try.func81, Try.ntmps81
  go_wp2_with fail
  go_loopw [5, 12] (fun s5 i wr => ∃ (k : Nat) (A' : Option Addr) (c' : Nat), k ≤ n ∧ i = .int .i64 k ∧ s5 = .slice A' k c' ∧ Sep No w wr [rowI 32 2 A' k c' (vals ((ws.take k).map (turnW ix)))]) (fun _ i _ => n - (intOf i).toNat)
  case atStart => exact ⟨0, none, 0, by omega, rfl, rfl, HS0.out⟩
  case round =>
    clear HS0
    obtain ⟨k, A', c', hk, rfl, rfl, hQ⟩ := hrel
    by_cases hlt : k < n
    · have hkl : k < ws.length := by rw [HLL.out]; exact hlt
      obtain ⟨ad, hA, _, had, hc⟩ := (hW.below hQ.below_).at_ hlt
      have e0 := hc (.int .u64 ws[k]) (by simp [u64s, List.getElem?_eq_getElem hkl])
      have hb := HWS.out _ (List.getElem_mem hkl)
      have he := HE.out _ (List.getElem_mem hkl)
      have hi := HIX.out _ (List.getElem_mem hkl)
      have HT := hide (List.take_succ_eq_append_getElem hkl)
      obtain ⟨x, hx⟩ : ∃ x, ws[k] = x := ⟨_, rfl⟩
      rw [hx] at e0 hb he hi HT
      obtain ⟨b1, b2⟩ := hb
      have C := fun w' => unpackR_any w' x b1 b2
      rw [he] at C
      rw [hA]
      have HA := hide hA
      clear hc hx he hA
      cases hr : unR x with
      | false =>
        rw [hr] at C
        have HX := hide (show turnW ix x = (false, unA x) from by unfold turnW; rw [hr]; rfl)
        have C1 := hide C
        clear C hi hr
        go_wp2_with fail
        refine (C1.out _).mono ?_
        rintro e w3 ⟨rfl, hB3⟩
        have hQ3 := (hQ.below hB3)
        go_wp2_with (first
          | (at_builtin
             refine wpList_app1 (cs := #[.bool false, .int .i64 (unA x)]) rfl (.tmp 28) (.tmp 30) 50 rfl sVal (hQ3.alloc _) 0 (n := k) rfl rfl rfl (by simp) rfl rfl (by omega) ?_
             intro A4 c4 w4 hS4 hC4))
        go_roundw
        case rel => exact ⟨k + 1, A4, c4, by omega, by go_num, rfl, by rw [HT.out, List.map_append, List.map_cons, List.map_nil, HX.out, vals_snoc]; exact hS4⟩
        case measure => simp [intOf]; omega
      | true =>
        rw [hr] at C
        obtain ⟨hi1, hi2⟩ := hi hr
        have HX := hide (show turnW ix x = (true, (ix (unA x) : Int)) from by unfold turnW; rw [hr]; rfl)
        obtain ⟨q, hq⟩ : ∃ q, ix (unA x) = q := ⟨_, rfl⟩
        rw [hq] at hi1 hi2 HX
        have C1 := hide C
        have C2 := hide (fun w' (hb : Below w.heap.size w w') => place_any w' As ns cs q sts (unA x) hns (hS.below hb) hi1 hi2 HM.out)
        clear C hi hr hq hi2
        go_wp2_with fail
        refine (C1.out _).mono ?_
        rintro e w3 ⟨rfl, hB3⟩
        have hQ3 := (hQ.below hB3).alloc (.cells #[.bool true, .int .i64 (unA x)] 32)
        go_wp2_with fail
        refine (C2.out _ hQ3.below_).mono ?_
        rintro e w5 ⟨rfl, rfl⟩
        have hQ4 := (hQ.below hB3)
        go_wp2_with (first
          | (at_builtin
             refine wpList_app1 (cs := #[.bool true, .int .i64 q]) rfl (.tmp 28) (.tmp 30) 50 rfl sVal (hQ4.alloc _) 0 (n := k) rfl rfl rfl (by simp) rfl rfl (by omega) ?_
             intro A4 c4 w4 hS4 hC4))
        go_roundw
        case rel => exact ⟨k + 1, A4, c4, by omega, by go_num, rfl, by rw [HT.out, List.map_append, List.map_cons, List.map_nil, HX.out, vals_snoc]; exact hS4⟩
        case measure => simp [intOf]; omega
    · obtain rfl : k = n := by omega
      rw [show ws.take k = ws from List.take_of_length_le (by rw [HLL.out]; omega)] at hQ
      go_wp2_with fail
      go_ret
      exact ⟨A', c', rfl, hQ⟩
set_option maxRecDepth 100000 in
set_option maxHeartbeats 4000000 in
theorem readv_any (w : World) (bl : Nat) (A As : Option Addr) (n c ns cs : Nat) (ws sts : List Int) (ix : Int → Nat) (hn : n ≤ 1000) (hns : ns ≤ 1000) (hW : Rd w (fun _ => True) 1 A n (u64s ws)) (hws : ∀ x ∈ ws, 0 ≤ x ∧ x ≤ 18446744073709551615) (hE : ∀ x ∈ ws, unE x = 0) (hS : Rd w (fun _ => True) 1 As ns (ints sts)) (hbl : Blk w bl 40 #[.slice As ns cs])
    (hm : ∀ (i j : Nat) (a b : Int), i < j → sts[i]? = some a → sts[j]? = some b → a < b) (hix : ∀ x ∈ ws, unR x = true → ix (unA x) < ns ∧ sts[ix (unA x)]? = some (unA x)) :
    Calls Try.prog 77 #[.slice A n c, .pointer (some ⟨bl, 0, none⟩)] w fun e w' => ∃ A' c', e = .returned (.slice A' n c') ∧ Sep No w w' [rowI 32 2 A' n c' (vals (ws.map (turnW ix)))] := by
  have HLL := hide (show ws.length = n by have := hW.1; simpa [u64s] using this)
  have HM := hide hm
  have HIX := hide hix
  have HE := hide hE
  have HWS := hide hws
  have HS0 := hide ((Sep.nil No w).nilRow 32 2)
  clear hm hix hE hws
  go_enter Try.func77, Try.ntmps77
  go_wp2_with fail
  go_loopw [4, 13] (fun s5 i wr => ∃ (k : Nat) (A' : Option Addr) (c' : Nat), k ≤ n ∧ i = .int .i64 k ∧ s5 = .slice A' k c' ∧ Sep No w wr [rowI 32 2 A' k c' (vals ((ws.take k).map (turnW ix)))]) (fun _ i _ => n - (intOf i).toNat)
  case atStart => exact ⟨0, none, 0, by omega, rfl, rfl, HS0.out⟩
  case round =>
    clear HS0
    obtain ⟨k, A', c', hk, rfl, rfl, hQ⟩ := hrel
    by_cases hlt : k < n
    · have hkl : k < ws.length := by rw [HLL.out]; exact hlt
      obtain ⟨ad, hA, _, had, hc⟩ := (hW.below hQ.below_).at_ hlt
      have e0 := hc (.int .u64 ws[k]) (by simp [u64s, List.getElem?_eq_getElem hkl])
      have hb := HWS.out _ (List.getElem_mem hkl)
      have he := HE.out _ (List.getElem_mem hkl)
      have hi := HIX.out _ (List.getElem_mem hkl)
      have HT := hide (List.take_succ_eq_append_getElem hkl)
      obtain ⟨x, hx⟩ : ∃ x, ws[k] = x := ⟨_, rfl⟩
      rw [hx] at e0 hb he hi HT
      obtain ⟨b1, b2⟩ := hb
      have C := fun w' => unpackP_any w' x b1 b2
      rw [he] at C
      rw [hA]
      have HA := hide hA
      clear hc hx he hA
      cases hr : unR x with
      | false =>
        rw [hr] at C
        have HX := hide (show turnW ix x = (false, unA x) from by unfold turnW; rw [hr]; rfl)
        have C1 := hide C
        clear C hi hr
        go_wp2_with fail
        refine (C1.out _).mono ?_
        rintro e w3 ⟨rfl, hB3⟩
        have hQ3 := (hQ.below hB3)
        go_wp2_with (first
          | (at_builtin
             refine wpList_app1 (cs := #[.bool false, .int .i64 (unA x)]) rfl (.tmp 33) (.tmp 35) 50 rfl sVal (hQ3.alloc _) 0 (n := k) rfl rfl rfl (by simp) rfl rfl (by omega) ?_
             intro A4 c4 w4 hS4 hC4))
        go_roundw
        case rel => exact ⟨k + 1, A4, c4, by omega, by go_num, rfl, by rw [HT.out, List.map_append, List.map_cons, List.map_nil, HX.out, vals_snoc]; exact hS4⟩
        case measure => simp [intOf]; omega
      | true =>
        rw [hr] at C
        obtain ⟨hi1, hi2⟩ := hi hr
        have HX := hide (show turnW ix x = (true, (ix (unA x) : Int)) from by unfold turnW; rw [hr]; rfl)
        obtain ⟨q, hq⟩ : ∃ q, ix (unA x) = q := ⟨_, rfl⟩
        rw [hq] at hi1 hi2 HX
        have C1 := hide C
        have C2 := hide (fun w' (hb : Below w.heap.size w w') => bsearch_any w' As ns cs q sts (unA x) hns (hS.below hb) hi1 hi2 HM.out)
        clear C hi hr hq hi2
        go_wp2_with fail
        refine (C1.out _).mono ?_
        rintro e w3 ⟨rfl, hB3⟩
        have hQ3 := (hQ.below hB3).alloc (.cells #[.bool true, .int .i64 (unA x)] 32)
        obtain ⟨l1, l2, l3⟩ := ((hbl.below_ ((hQ.below hB3).below_))).rules
        have l5 : w3.cell? ⟨bl, 0, none⟩ = some (.slice As ns cs) := by rw [l1]; rfl
        clear l1
        go_wp2_with fail
        refine (C2.out _ hQ3.below_).mono ?_
        rintro e w5 ⟨rfl, rfl⟩
        have hQ4 := (hQ.below hB3)
        go_wp2_with (first
          | (at_builtin
             refine wpList_app1 (cs := #[.bool true, .int .i64 q]) rfl (.tmp 33) (.tmp 35) 50 rfl sVal (hQ4.alloc _) 0 (n := k) rfl rfl rfl (by simp) rfl rfl (by omega) ?_
             intro A4 c4 w4 hS4 hC4))
        go_roundw
        case rel => exact ⟨k + 1, A4, c4, by omega, by go_num, rfl, by rw [HT.out, List.map_append, List.map_cons, List.map_nil, HX.out, vals_snoc]; exact hS4⟩
        case measure => simp [intOf]; omega
    · obtain rfl : k = n := by omega
      rw [show ws.take k = ws from List.take_of_length_le (by rw [HLL.out]; omega)] at hQ
      go_wp2_with fail
      go_ret
      exact ⟨A', c', rfl, hQ⟩
end Go.Proofs.Ytpbafmdebflbpaa
