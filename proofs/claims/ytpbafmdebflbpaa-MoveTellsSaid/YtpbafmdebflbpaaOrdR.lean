/- The reference's place, turned, Order. -/
import Derived.Test.YtpbafmdebflbpaaOrd
import Derived.Test.YtpbafmdebflbpaaGrE
namespace Go.Proofs.Ytpbafmdebflbpaa
open Go.RowKit

def placeN (l : List Int) (x : Int) : Nat := if x ∈ l then l.idxOf x else 0
def turnL (l : List Int) (v : Val) : Val := if v.1 = true then (true, (placeN l v.2 : Int)) else v
theorem idx_first : ∀ (xs : List Int) (k : Nat) (h : k < xs.length), xs[k] ∉ xs.take k → xs.idxOf xs[k] = k := by
  intro xs
  induction xs with
  | nil => intro k h; simp at h
  | cons a xs ih =>
    intro k h hn
    cases k with
    | zero => simp
    | succ k =>
      simp only [List.take_succ_cons, List.mem_cons, not_or, List.getElem_cons_succ] at hn ⊢
      have hk2 : k < xs.length := by simpa using h
      rw [List.idxOf_cons, show (a == xs[k]) = false from by rw [beq_eq_false_iff_ne]; exact fun e => hn.1 e.symm, cond_false, ih k (by simpa using h) hn.2]
theorem seenAll_snoc (l : List Int) (vs : List Val) (v : Val) : seenAll l (vs ++ [v]) = seen1 (seenAll l vs) v := by simp [seenAll]
theorem seen1_no (l : List Int) (b : Bool) (x : Int) (h : b = false ∨ x ∈ l) : seen1 l (b, x) = l := by
  unfold seen1; rw [if_neg]; rintro ⟨h1, h2⟩; rcases h with h | h
  · rw [h] at h1; cases h1
  · exact h2 h
theorem seen1_yes (l : List Int) (x : Int) (h : x ∉ l) : seen1 l (true, x) = l ++ [x] := by unfold seen1; rw [if_pos ⟨rfl, h⟩]
theorem ValsOk.take {n : Nat} {vs : List Val} (h : ValsOk n vs) (k : Nat) : ValsOk n (vs.take k) := fun v hv => h v (List.mem_of_mem_take hv)

set_option maxHeartbeats 400000 in
theorem placeR_any (w : World) (A : Option Addr) (n c : Nat) (xs : List Int) (x : Int) (hn : n ≤ 1000) (h : Rd w (fun _ => True) 1 A n (ints xs)) :
    Calls Try.prog 110 #[.slice A n c, .int .i64 x] w fun e w' => e = .returned (.int .i64 (placeN xs x)) ∧ w' = w := by
  have HL := hide (show xs.length = n by have := h.1; simpa using this)
  go_enter Try.func110, Try.ntmps110
  go_wp2_with fail
  go_loopw [5] (fun i wr => ∃ k : Nat, k ≤ n ∧ i = .int .i64 k ∧ wr = w ∧ Hid (x ∉ xs.take k)) (fun i _ => n - (intOf i).toNat)
  case atStart => exact ⟨0, by omega, rfl, rfl, by simp [Hid]⟩
  case round =>
    obtain ⟨k, hk, rfl, rfl, HN⟩ := hrel
    by_cases hlt : k < n
    · have hkl : k < xs.length := by rw [HL.out]; exact hlt
      obtain ⟨ad, rfl, _, _, hc⟩ := h.at_ hlt
      have e0 := hc (.int .i64 xs[k]) (by simp [ints, List.getElem?_eq_getElem hkl])
      have HF := hide (idx_first xs k hkl)
      have HM := hide (List.getElem_mem hkl)
      have HT := hide (List.take_succ_eq_append_getElem hkl)
      obtain ⟨y, hy⟩ : ∃ y, xs[k] = y := ⟨_, rfl⟩
      rw [hy] at e0 HF HM HT
      clear hc hy
      by_cases hx : y = x
      · subst hx
        have k1 : (y == y) = true := by simp
        have HR := hide (show placeN xs y = k from by unfold placeN; rw [if_pos HM.out]; exact HF.out HN.out)
        go_wp2_with fail
        go_ret
        rw [HR.out]
        first | exact ⟨rfl, rfl⟩ | exact rfl
      · have k1 : (y == x) = false := by simp [hx]
        have HX := hide hx
        clear hx
        go_wp2_with fail
        go_roundw
        case rel => exact ⟨k + 1, by omega, by go_num, by first | rfl | trivial, by
          show x ∉ _
          rw [HT.out]
          simp only [List.mem_append, List.mem_singleton, not_or]
          exact ⟨HN.out, fun e => HX.out e.symm⟩⟩
        case measure => simp [intOf]; omega
    · have HR := hide (show placeN xs x = 0 from by
        have h1 := HN.out
        rw [List.take_of_length_le (by rw [HL.out]; omega)] at h1
        unfold placeN; rw [if_neg h1])
      go_wp2_with fail
      go_ret
      rw [HR.out]
      first | exact ⟨rfl, rfl⟩ | exact rfl

set_option maxRecDepth 100000 in
set_option maxHeartbeats 4000000 in
theorem turned_any (w : World) (A Al : Option Addr) (n c nl cl : Nat) (vs : List Val) (l : List Int) (hn : n ≤ 1000) (hnl : nl ≤ 1000) (hv : Rd w (fun _ => True) 2 A n (vals vs)) (hl : Rd w (fun _ => True) 1 Al nl (ints l)) :
    Calls Try.prog 102 #[.slice A n c, .slice Al nl cl] w fun e w' => ∃ A' c', e = .returned (.slice A' n c') ∧ Sep No w w' [rowI 32 2 A' n c' (vals (vs.map (turnL l)))] := by
  have HLL := hide (show vs.length = n by have := hv.1; rw [vals_length] at this; omega)
  have HS0 := hide ((Sep.nil No w).nilRow 32 2)
  go_enter Try.func102, Try.ntmps102
  go_wp2_with fail
  go_loopw [5, 10] (fun s5 i wr => ∃ (k : Nat) (A' : Option Addr) (c' : Nat), k ≤ n ∧ i = .int .i64 k ∧ s5 = .slice A' k c' ∧ Sep No w wr [rowI 32 2 A' k c' (vals ((vs.take k).map (turnL l)))]) (fun _ i _ => n - (intOf i).toNat)
  case atStart => exact ⟨0, none, 0, by omega, rfl, rfl, HS0.out⟩
  case round =>
    clear HS0
    obtain ⟨k, A', c', hk, rfl, rfl, hS⟩ := hrel
    by_cases hlt : k < n
    · have hkl : k < vs.length := by rw [HLL.out]; exact hlt
      obtain ⟨ad, hA, _, had, hc, hd⟩ := (hv.below hS.below_).atN hlt
      obtain ⟨v0, v1⟩ := vals_at vs k hkl
      have e0 := hc _ v0
      have e1 := hd 0 _ v1
      have HT := hide (List.take_succ_eq_append_getElem hkl)
      obtain ⟨x, hx⟩ : ∃ x, vs[k] = x := ⟨_, rfl⟩
      rw [hx] at e0 e1 HT
      subst hA
      clear hc hd v0 v1 hx
      obtain ⟨b, m⟩ := x
      dsimp only at e0 e1
      have HbS := hide (fun o => (hS.alloc o).below_)
      cases b with
      | false =>
        have HX := hide (show turnL l (false, m) = (false, m) from rfl)
        go_wp2_with (first
          | (at_builtin
             refine wpList_app1 (cs := #[.bool false, .int .i64 m]) rfl (.tmp 21) (.tmp 23) 50 rfl sVal (hS.alloc _) 0 (n := k) rfl rfl rfl (by simp) rfl rfl (by omega) ?_
             intro A4 c4 w4 hS4 hC4))
        go_roundw
        case rel => exact ⟨k + 1, A4, c4, by omega, by go_num, rfl, by rw [HT.out, List.map_append, List.map_cons, List.map_nil, HX.out, vals_snoc]; exact hS4⟩
        case measure => simp [intOf]; omega
      | true =>
        have HX := hide (show turnL l (true, m) = (true, (placeN l m : Int)) from rfl)
        obtain ⟨q, hq⟩ : ∃ q, placeN l m = q := ⟨_, rfl⟩
        have C := placeR_any (wr.alloc (.cells #[.bool true, .int .i64 m] 32)) Al nl cl l m hnl (hl.below (HbS.out _))
        rw [hq] at C HX
        have HC := hide C
        clear C hq
        go_wp2_with fail
        refine HC.out.mono ?_
        rintro e w3 ⟨rfl, rfl⟩
        go_wp2_with (first
          | (at_builtin
             refine wpList_app1 (cs := #[.bool true, .int .i64 q]) rfl (.tmp 21) (.tmp 23) 50 rfl sVal (hS.alloc _) 0 (n := k) rfl rfl rfl (by simp) rfl rfl (by omega) ?_
             intro A4 c4 w4 hS4 hC4))
        go_roundw
        case rel => exact ⟨k + 1, A4, c4, by omega, by go_num, rfl, by rw [HT.out, List.map_append, List.map_cons, List.map_nil, HX.out, vals_snoc]; exact hS4⟩
        case measure => simp [intOf]; omega
    · obtain rfl : k = n := by omega
      rw [show vs.take k = vs from List.take_of_length_le (by rw [HLL.out]; omega)] at hS
      go_wp2_with fail
      go_ret
      exact ⟨A', c', rfl, hS⟩
end Go.Proofs.Ytpbafmdebflbpaa
