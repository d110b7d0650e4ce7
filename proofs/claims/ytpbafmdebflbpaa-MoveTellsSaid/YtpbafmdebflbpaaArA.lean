/- arena: values as words: the program's (a closure of Lay) and the reference's. -/
import Derived.Test.YtpbafmdebflbpaaGrD
import Derived.Test.YtpbafmdebflbpaaWordsLaw
namespace Go.Proofs.Ytpbafmdebflbpaa
open Go.RowKit

def u64s (l : List Int) : List Value := l.map (Value.int .u64)
theorem u64s_snoc (l : List Int) (x : Int) : u64s (l ++ [x]) = u64s l ++ [.int .u64 x] := by simp [u64s]
/-- A value's word, by the places of objects. -/
def packV (at_ : List Int) (v : Val) : Int := packA v.1 (if v.1 = true then at_.getD v.2.toNat 0 else v.2)
theorem sWord : SliceT Try.prog 53 24 1 8 := SliceT.mk_ Try.underlying53 (z := .int .u64 0) (by kernel_rfl) rfl (by omega)
theorem u64s_row {F : Nat → Prop} {W w : World} {items : List Item} (h : Sep F W w items) (k : Nat) {A : Option Addr} {n c : Nat} {l : List Int} (hk : items[k]? = some (rowI 24 1 A n c (u64s l))) : l.length = n := by
  have := (h.rd_ k hk).1; simpa [u64s] using this

set_option maxRecDepth 100000 in
set_option maxHeartbeats 4000000 in
theorem packed_any (w : World) (A At : Option Addr) (n c nt ct : Nat) (l : List Val) (at_ : List Int) (hn : n ≤ 1000) (_hnt : nt ≤ 1000) (hl : Rd w (fun _ => True) 2 A n (vals l)) (ha : Rd w (fun _ => True) 1 At nt (ints at_)) (hv : ∀ v ∈ l, v.1 = true → 0 ≤ v.2 ∧ v.2 < nt) :
    Calls Try.prog 63 #[.slice A n c, .slice At nt ct] w fun e w' => ∃ A' c', e = .returned (.slice A' n c') ∧ Sep No w w' [rowI 24 1 A' n c' (u64s (l.map (packV at_)))] := by
  have HLL := hide (show l.length = n by have := hl.1; rw [vals_length] at this; omega)
  have HAL := hide (show at_.length = nt by have := ha.1; simpa using this)
  have HS0 := hide ((Sep.nil No w).nilRow 24 1)
  go_enter Try.func63, Try.ntmps63
  go_wp2_with fail
  go_loopw [5, 12] (fun s5 i wr => ∃ (k : Nat) (A' : Option Addr) (c' : Nat), k ≤ n ∧ i = .int .i64 k ∧ s5 = .slice A' k c' ∧ Sep No w wr [rowI 24 1 A' k c' (u64s ((l.take k).map (packV at_)))]) (fun _ i _ => n - (intOf i).toNat)
  case atStart => exact ⟨0, none, 0, by omega, rfl, rfl, HS0.out⟩
  case round =>
    clear HS0
    obtain ⟨k, A', c', hk, rfl, rfl, hS⟩ := hrel
    by_cases hlt : k < n
    · have hkl : k < l.length := by rw [HLL.out]; exact hlt
      obtain ⟨ad, hA, _, had, hc, hd⟩ := (hl.below hS.below_).atN hlt
      obtain ⟨v0, v1⟩ := vals_at l k hkl
      have e0 := hc _ v0
      have e1 := hd 0 _ v1
      have HT := hide (List.take_succ_eq_append_getElem hkl)
      have hvk := hv _ (List.getElem_mem hkl)
      obtain ⟨x, hx⟩ : ∃ x, l[k] = x := ⟨_, rfl⟩
      rw [hx] at e0 e1 HT hvk
      subst hA
      clear hc hd v0 v1 hx
      obtain ⟨b, m⟩ := x
      dsimp only at e0 e1 hvk
      have hbS := fun o => (hS.alloc o).below_
      cases b with
      | false =>
        clear hvk
        go_wp2_with fail
        refine (packR_any _ false m).mono ?_
        rintro e w3 ⟨rfl, hB3⟩
        have hS3 := (hS.alloc _).below hB3
        go_wp2_with (first
          | (at_builtin
             refine wpList_app1 (cs := #[.int .u64 (packA false m)]) rfl (.tmp 29) (.tmp 31) 53 rfl sWord hS3 0 (n := k) rfl rfl rfl (by simp) rfl rfl (by omega) ?_
             intro A4 c4 w4 hS4 hC4))
        go_roundw
        case rel => exact ⟨k + 1, A4, c4, by omega, by go_num, rfl, by rw [HT.out, List.map_append, List.map_cons, List.map_nil, u64s_snoc]; exact hS4⟩
        case measure => simp [intOf]; omega
      | true =>
        obtain ⟨hm0, hmn⟩ := hvk rfl
        obtain ⟨j, rfl⟩ := Int.eq_ofNat_of_zero_le hm0
        have hjn : j < nt := by omega
        have hjl : j < at_.length := by rw [HAL.out]; exact hjn
        obtain ⟨ad2, hA2, _, had2, hc2⟩ := (ha.below (hbS (.cells #[.bool true, .int .i64 j] 32))).at_ hjn
        have e2 := hc2 (.int .i64 at_[j]) (by simp [ints, List.getElem?_eq_getElem hjl])
        have HX := hide (show packV at_ (true, (j : Int)) = packA true at_[j] from by unfold packV; simp [List.getD_eq_getElem?_getD, List.getElem?_eq_getElem hjl])
        obtain ⟨y, hy⟩ : ∃ y, at_[j] = y := ⟨_, rfl⟩
        rw [hy] at e2 HX
        rw [hA2]
        have HA2 := hide hA2
        clear hc2 hy hm0 hmn hA2
        go_wp2_with fail
        refine (packR_any _ true y).mono ?_
        rintro e w3 ⟨rfl, hB3⟩
        have hS3 := (hS.alloc _).below hB3
        go_wp2_with (first
          | (at_builtin
             refine wpList_app1 (cs := #[.int .u64 (packA true y)]) rfl (.tmp 29) (.tmp 31) 53 rfl sWord hS3 0 (n := k) rfl rfl rfl (by simp) rfl rfl (by omega) ?_
             intro A4 c4 w4 hS4 hC4))
        go_roundw
        case rel => exact ⟨k + 1, A4, c4, by omega, by go_num, rfl, by rw [HT.out, List.map_append, List.map_cons, List.map_nil, HX.out, u64s_snoc]; exact hS4⟩
        case measure => simp [intOf]; omega
    · obtain rfl : k = n := by omega
      rw [show l.take k = l from List.take_of_length_le (by rw [HLL.out]; omega)] at hS
      go_wp2_with fail
      go_ret
      exact ⟨A', c', rfl, hS⟩
set_option maxRecDepth 100000 in
set_option maxHeartbeats 4000000 in
theorem pack_any (w : World) (D : Nat → Prop) (Aw A At : Option Addr) (nw cw n c nt ct b : Nat) (xs : List Int) (l : List Val) (at_ : List Int) (hn : n ≤ 1000) (_hnt : nt ≤ 1000) (hnw : nw ≤ 1000) (hw : (rowI 24 1 Aw nw cw (u64s xs)).P w) (hD : ∀ g, (rowI 24 1 Aw nw cw (u64s xs)).fp g → ¬ D g) (hb : Blk w b 108 #[.slice At nt ct]) (hbD : D b) (hl : Rd w D 2 A n (vals l)) (ha : Rd w D 1 At nt (ints at_)) (hv : ∀ v ∈ l, v.1 = true → 0 ≤ v.2 ∧ v.2 < nt) :
    Calls Try.prog 59 #[.slice Aw nw cw, .slice A n c, .pointer (some ⟨b, 0, none⟩)] w fun e w' => ∃ A' c', e = .returned (.slice A' (nw + n) c') ∧ Sep (rowI 24 1 Aw nw cw (u64s xs)).fp w w' [rowI 24 1 A' (nw + n) c' (u64s (xs ++ l.map (packV at_)))] := by
  have HLL := hide (show l.length = n by have := hl.1; rw [vals_length] at this; omega)
  have HAL := hide (show at_.length = nt by have := ha.1; simpa using this)
  obtain ⟨F, hF⟩ : ∃ F, (rowI 24 1 Aw nw cw (u64s xs)).fp = F := ⟨_, rfl⟩
  have HS0 := hide (Sep.start hw)
  rw [hF] at HS0 hD ⊢
  clear hF hw
  go_enter Try.func59, Try.ntmps59
  go_wp2_with fail
  go_loopw [0, 12] (fun s5 i wr => ∃ (k : Nat) (A' : Option Addr) (c' : Nat), k ≤ n ∧ i = .int .i64 k ∧ s5 = .slice A' (nw + k) c' ∧ Sep F w wr [rowI 24 1 A' (nw + k) c' (u64s (xs ++ (l.take k).map (packV at_)))]) (fun _ i _ => n - (intOf i).toNat)
  case atStart => exact ⟨0, Aw, cw, by omega, rfl, rfl, by simpa using HS0.out⟩
  case round =>
    clear HS0
    obtain ⟨k, A', c', hk, rfl, rfl, hS⟩ := hrel
    by_cases hlt : k < n
    · have hkl : k < l.length := by rw [HLL.out]; exact hlt
      obtain ⟨ad, hA, _, had, hc, hd⟩ := (hl.chg hS.bel hD).atN hlt
      obtain ⟨v0, v1⟩ := vals_at l k hkl
      have e0 := hc _ v0
      have e1 := hd 0 _ v1
      have HT := hide (List.take_succ_eq_append_getElem hkl)
      have hvk := hv _ (List.getElem_mem hkl)
      obtain ⟨x, hx⟩ : ∃ x, l[k] = x := ⟨_, rfl⟩
      rw [hx] at e0 e1 HT hvk
      subst hA
      clear hc hd v0 v1 hx
      obtain ⟨q, m⟩ := x
      dsimp only at e0 e1 hvk
      have hbS := fun o => (hS.alloc o).bel
      obtain ⟨b1, b2, b3⟩ := (hb.chg hS.bel (fun h => hD b h hbD)).rules
      cases q with
      | false =>
        clear hvk
        go_wp2_with fail
        refine (packP_any _ false m).mono ?_
        rintro e w3 ⟨rfl, hB3⟩
        have hS3 := (hS.alloc _).below hB3
        go_wp2_with (first
          | (at_builtin
             refine wpList_app1 (cs := #[.int .u64 (packA false m)]) rfl (.tmp 29) (.tmp 31) 53 rfl sWord hS3 0 (n := nw + k) rfl rfl rfl (by simp) rfl rfl (by omega) ?_
             intro A4 c4 w4 hS4 hC4))
        go_roundw
        case rel => exact ⟨k + 1, A4, c4, by omega, by go_num, rfl, by rw [HT.out, List.map_append, List.map_cons, List.map_nil, ← List.append_assoc, u64s_snoc]; exact hS4⟩
        case measure => simp [intOf]; omega
      | true =>
        obtain ⟨hm0, hmn⟩ := hvk rfl
        obtain ⟨j, rfl⟩ := Int.eq_ofNat_of_zero_le hm0
        have hjn : j < nt := by omega
        have hjl : j < at_.length := by rw [HAL.out]; exact hjn
        obtain ⟨ad2, hA2, _, had2, hc2⟩ := (ha.chg (hbS (.cells #[.bool true, .int .i64 j] 32)) hD).at_ hjn
        have e2 := hc2 (.int .i64 at_[j]) (by simp [ints, List.getElem?_eq_getElem hjl])
        have HX := hide (show packV at_ (true, (j : Int)) = packA true at_[j] from by unfold packV; simp [List.getD_eq_getElem?_getD, List.getElem?_eq_getElem hjl])
        obtain ⟨y, hy⟩ : ∃ y, at_[j] = y := ⟨_, rfl⟩
        rw [hy] at e2 HX
        subst hA2
        clear hc2 hy hm0 hmn
        go_wp2_with fail
        refine (packP_any _ true y).mono ?_
        rintro e w3 ⟨rfl, hB3⟩
        have hS3 := (hS.alloc _).below hB3
        go_wp2_with (first
          | (at_builtin
             refine wpList_app1 (cs := #[.int .u64 (packA true y)]) rfl (.tmp 29) (.tmp 31) 53 rfl sWord hS3 0 (n := nw + k) rfl rfl rfl (by simp) rfl rfl (by omega) ?_
             intro A4 c4 w4 hS4 hC4))
        go_roundw
        case rel => exact ⟨k + 1, A4, c4, by omega, by go_num, rfl, by rw [HT.out, List.map_append, List.map_cons, List.map_nil, HX.out, ← List.append_assoc, u64s_snoc]; exact hS4⟩
        case measure => simp [intOf]; omega
    · obtain rfl : k = n := by omega
      rw [show l.take k = l from List.take_of_length_le (by rw [HLL.out]; omega)] at hS
      go_wp2_with fail
      go_ret
      exact ⟨A', c', rfl, hS⟩
end Go.Proofs.Ytpbafmdebflbpaa
