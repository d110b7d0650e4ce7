/- image: numbers as bytes: the program's and the reference's; ref.Bytes. image: the sum of bytes: the program's and the reference's; ref.Bytes. image: values, lists and a graph as bytes: the program's. -/
import Derived.Test.YtaajkldhnjoicaaGGraphTells1
import Derived.Test.YtaajkldhnjoicaaGGraphTells2
set_option linter.unusedSimpArgs false
set_option linter.unusedVariables false
namespace Go.Proofs.Ytaajkldhnjoicaa
open Go.RowKit

def bys (l : List Int) : List Value := l.map (Value.int .u8)
theorem sByte : SliceT Try.prog 26 5 1 1 := SliceT.mk_ Try.underlying26 (z := .int .u8 0) (by kernel_rfl) rfl (by omega)
theorem bys_snoc (l : List Int) (x : Int) : bys (l ++ [x]) = bys l ++ [.int .u8 x] := by simp [bys]

def zig (n : Int) : Int := if 0 ≤ n then 2 * n else -2 * n - 1
/-- A number below 128^f by seven bits each. -/
def numF : Nat → Int → List Int
  | 0, x => [x]
  | f + 1, x => if x < 128 then [x] else (128 + x % 128) :: numF f (x / 128)
def numB (n : Int) : List Int := numF 10 (zig n)
theorem numF_len (f : Nat) (x : Int) : (numF f x).length ≤ f + 1 := by
  induction f generalizing x with
  | zero => simp [numF]
  | succ f ih => unfold numF; split <;> simp; exact ih _
theorem numB_len (n : Int) : (numB n).length ≤ 11 := numF_len 10 _
theorem numF_lt (f : Nat) (x : Int) (h : x < 128) : numF f x = [x] := by cases f <;> simp [numF, h]
theorem numF_ge (f : Nat) (x : Int) (h : ¬ x < 128) : numF (f + 1) x = (128 + x % 128) :: numF f (x / 128) := by simp [numF, h]
theorem zig_range (n : Int) (h1 : -9223372036854775808 ≤ n) (h2 : n ≤ 9223372036854775807) : 0 ≤ zig n ∧ zig n ≤ 18446744073709551615 := by unfold zig; split <;> omega
theorem numF_byte (f : Nat) (x : Int) (h : 0 ≤ x) (hx : x < 128 ^ (f + 1)) : ∀ b ∈ numF f x, 0 ≤ b ∧ b ≤ 255 := by
  induction f generalizing x with
  | zero => intro b hb; simp [numF] at hb; subst hb; omega
  | succ f ih =>
    intro b hb
    unfold numF at hb
    split at hb
    · simp at hb; subst hb; omega
    · rcases List.mem_cons.1 hb with rfl | hb
      · omega
      · refine ih (x / 128) (by omega) ?_ b hb
        rw [show (128 : Int) ^ (f + 1 + 1) = 128 ^ (f + 1) * 128 from Int.pow_succ _ _] at hx
        omega
theorem numB_byte (n : Int) (h1 : -9223372036854775808 ≤ n) (h2 : n ≤ 9223372036854775807) : ∀ b ∈ numB n, 0 ≤ b ∧ b ≤ 255 :=
  numF_byte 10 _ (zig_range n h1 h2).1 (by have := (zig_range n h1 h2).2; simp; omega)

theorem all_xor (y : Nat) (h : y < 18446744073709551616) : 18446744073709551615 ^^^ y = 18446744073709551615 - y := by
  have h1 : (BitVec.allOnes 64 ^^^ BitVec.ofNat 64 y).toNat = (~~~ BitVec.ofNat 64 y).toNat := by rw [BitVec.allOnes_xor]
  rw [BitVec.toNat_xor, BitVec.toNat_allOnes, BitVec.toNat_not, BitVec.toNat_ofNat, Nat.mod_eq_of_lt (by omega)] at h1
  simpa using h1
theorem zigP_eq (n : Int) (h1 : -9223372036854775808 ≤ n) (h2 : n ≤ 9223372036854775807) : bits BinOp.xor IntKind.u64 (IntKind.u64.wrap (IntKind.u64.wrap n * 2)) (IntKind.u64.wrap (n / 9223372036854775808)) = zig n := by
  simp only [IntKind.wrap_u64]
  unfold zig
  split
  · rename_i h
    rw [show n / 9223372036854775808 = 0 by omega, u64_xor _ _ (by omega) (by omega) (by omega) (by omega)]
    simp
    omega
  · rename_i h
    rw [show n / 9223372036854775808 = -1 by omega, u64_xor _ _ (by omega) (by omega) (by omega) (by omega), Nat.xor_comm, show ((-1 : Int) % 18446744073709551616).toNat = 18446744073709551615 from rfl, all_xor _ (by omega)]
    omega
theorem zigR_eq (n : Int) (h1 : -9223372036854775808 ≤ n) (h2 : n ≤ 9223372036854775807) (h : n < 0) : bits BinOp.xor IntKind.u64 IntKind.u64.max (IntKind.u64.wrap (IntKind.u64.wrap n * 2)) = zig n := by
  simp only [IntKind.wrap_u64]
  unfold zig
  rw [if_neg (by omega), u64_xor _ _ (by decide) (by decide) (by omega) (by omega), show (IntKind.u64.max).toNat = 18446744073709551615 from rfl, all_xor _ (by omega)]
  omega
theorem or_byte (x : Int) (_h : 0 ≤ x) : bits BinOp.or IntKind.u8 (IntKind.u8.wrap x) 128 = 128 + x % 128 := by
  have key : ∀ a : Nat, a < 256 → bits BinOp.or IntKind.u8 (a : Int) 128 = 128 + (a : Int) % 128 := by decide +kernel
  have := key (x % 256).toNat (by omega)
  rw [IntKind.wrap_u8, show ((x % 256).toNat : Int) = x % 256 by omega] at *
  rw [this]
  omega

set_option maxRecDepth 100000 in
set_option maxHeartbeats 4000000 in
theorem numP_any (w : World) (n : Int) (h1 : -9223372036854775808 ≤ n) (h2 : n ≤ 9223372036854775807) :
    Calls Try.prog 17 #[.int .i64 n] w fun e w' => ∃ A c, e = .returned (.slice A (numB n).length c) ∧ Sep No w w' [rowI 5 1 A (numB n).length c (bys (numB n))] := by
  have e1 := zigP_eq n h1 h2
  obtain ⟨z1, z2⟩ := zig_range n h1 h2
  have HB := hide (show numB n = numF 10 (zig n) from rfl)
  have HL := hide (numB_len n)
  have HS0 := hide ((Sep.nil No w).nilRow 5 1)
  generalize numB n = L at HB HL ⊢
  generalize zig n = z at e1 z1 z2 HB
  go_enter Try.func17, Try.ntmps17
  go_wp2_with fail
  go_loopw [3, 4] (fun x b wr => ∃ (f : Nat) (y : Int) (A : Option Addr) (m c : Nat) (l : List Int), x = .int .u64 y ∧ b = .slice A m c ∧ f ≤ 10 ∧ m + f ≤ 10 ∧ 0 ≤ y ∧ y < 128 ^ f ∧ y ≤ 18446744073709551615 ∧ Hid (l ++ numF f y = L) ∧ Sep No w wr [rowI 5 1 A m c (bys l)]) (fun x _ _ => (intOf x).toNat)
  case atStart => exact ⟨10, z, none, 0, 0, [], rfl, rfl, by omega, by omega, z1, by omega, z2, by simpa [Hid] using HB.out.symm, HS0.out⟩
  case round =>
    clear HS0
    obtain ⟨f, y, A, m, c, l, rfl, rfl, hf, hm, hy, hyf, hyu, hl, hS⟩ := hrel
    by_cases hlt : y < 128
    · have e := hl.out
      rw [numF_lt f y hlt] at e
      have HE := hide e
      have e2 : IntKind.u8.wrap y = y := by rw [IntKind.wrap_u8]; omega
      have HN := hide (show m + 1 = L.length from by rw [← e]; have := (hS.rd_ 0 rfl).1; simp [bys] at this; simp [this])
      clear hl e hyf
      go_wp2_with (first
        | (at_builtin
           refine wpList_app1 (cs := #[.int .u8 y]) rfl (.tmp 22) (.tmp 25) 26 rfl sByte hS 0 (n := m) rfl rfl rfl (by simp) rfl rfl (by omega) ?_
           intro A4 c4 w4 hS4 hC4))
      go_ret
      rw [HN.out] at hS4 ⊢
      exact ⟨A4, c4, rfl, by rw [show bys L = bys l ++ [.int .u8 y] from by rw [← HE.out, bys_snoc]]; exact hS4⟩
    · obtain ⟨f', rfl⟩ : ∃ f', f = f' + 1 := by cases f with
        | zero => simp at hyf; omega
        | succ f => exact ⟨f, rfl⟩
      have e := hl.out
      rw [numF_ge f' y hlt] at e
      have HE := hide e
      have e2 := or_byte y hy
      rw [IntKind.wrap_u8] at e2
      have HP := hide (show y / 128 < 128 ^ f' by rw [Int.pow_succ] at hyf; omega)
      clear hl e hyf
      go_wp2_with (first
        | (at_builtin
           refine wpList_app1 (cs := #[.int .u8 (128 + y % 128)]) rfl (.tmp 16) (.tmp 20) 26 rfl sByte hS 0 (n := m) rfl rfl rfl (by simp) rfl rfl (by omega) ?_
           intro A4 c4 w4 hS4 hC4))
      go_roundw
      case rel =>
        refine ⟨f', y / 128, A4, m + 1, c4, l ++ [128 + y % 128], by go_num, rfl, by omega, by omega, by omega, HP.out, by omega, by show _ = _; rw [← HE.out]; simp, by rw [bys_snoc]; exact hS4⟩
      case measure => simp [intOf]; omega

set_option maxRecDepth 100000 in
set_option maxHeartbeats 4000000 in
theorem numR_any (w : World) (n : Int) (h1 : -9223372036854775808 ≤ n) (h2 : n ≤ 9223372036854775807) :
    Calls Try.prog 18 #[.int .i64 n] w fun e w' => ∃ A c, e = .returned (.slice A (numB n).length c) ∧ Sep No w w' [rowI 5 1 A (numB n).length c (bys (numB n))] := by
  obtain ⟨z1, z2⟩ := zig_range n h1 h2
  have HB := hide (show numB n = numF 10 (zig n) from rfl)
  have HL := hide (numB_len n)
  have HS0 := hide ((Sep.nil No w).nilRow 5 1)
  have key : ∀ z, zig n = z → 0 ≤ z → z ≤ 18446744073709551615 → Calls Try.prog 18 #[.int .i64 n] w fun e w' => ∃ A c, e = .returned (.slice A (numB n).length c) ∧ Sep No w w' [rowI 5 1 A (numB n).length c (bys (numB n))] := by
    intro z hz z1 z2
    rw [hz] at HB
    by_cases hneg : n < 0
    all_goals
      have HZ2 := hide (show 0 ≤ n → n * 2 = z by intro h; rw [← hz]; unfold zig; rw [if_pos h]; omega)
      have e1 : n < 0 → bits BinOp.xor IntKind.u64 IntKind.u64.max (IntKind.u64.wrap (IntKind.u64.wrap n * 2)) = z := by rw [← hz]; exact zigR_eq n h1 h2
      generalize numB n = L at HB HL ⊢
      clear hz
      go_enter Try.func18, Try.ntmps18
      go_wp2_with fail
      go_loopw [3, 4] (fun x b wr => ∃ (f : Nat) (y : Int) (A : Option Addr) (m c : Nat) (l : List Int), x = .int .u64 y ∧ b = .slice A m c ∧ f ≤ 10 ∧ m + f ≤ 10 ∧ 0 ≤ y ∧ y < 128 ^ f ∧ y ≤ 18446744073709551615 ∧ Hid (l ++ numF f y = L) ∧ Sep No w wr [rowI 5 1 A m c (bys l)]) (fun x _ _ => (intOf x).toNat)
      case atStart => exact ⟨10, z, none, 0, 0, [], by first | rfl | rw [HZ2.out (by omega)], rfl, by omega, by omega, z1, by omega, z2, by simpa [Hid] using HB.out.symm, HS0.out⟩
      case round =>
        clear HS0 e1
        obtain ⟨f, y, A, m, c, l, rfl, rfl, hf, hm, hy, hyf, hyu, hl, hS⟩ := hrel
        by_cases hlt : y < 128
        · have e := hl.out
          rw [numF_lt f y hlt] at e
          have HE := hide e
          have e2 : IntKind.u8.wrap y = y := by rw [IntKind.wrap_u8]; omega
          have HN := hide (show m + 1 = L.length from by rw [← e]; have := (hS.rd_ 0 rfl).1; simp [bys] at this; simp [this])
          clear hl e hyf
          go_wp2_with (first
            | (at_builtin
               refine wpList_app1 (cs := #[.int .u8 y]) rfl (.tmp 23) (.tmp 26) 26 rfl sByte hS 0 (n := m) rfl rfl rfl (by simp) rfl rfl (by omega) ?_
               intro A4 c4 w4 hS4 hC4))
          go_ret
          rw [HN.out] at hS4 ⊢
          exact ⟨A4, c4, rfl, by rw [show bys L = bys l ++ [.int .u8 y] from by rw [← HE.out, bys_snoc]]; exact hS4⟩
        · obtain ⟨f', rfl⟩ : ∃ f', f = f' + 1 := by cases f with
            | zero => simp at hyf; omega
            | succ f => exact ⟨f, rfl⟩
          have e := hl.out
          rw [numF_ge f' y hlt] at e
          have HE := hide e
          have e2 : IntKind.u8.wrap (y % 128 + 128) = 128 + y % 128 := by rw [IntKind.wrap_u8]; omega
          have HP := hide (show y / 128 < 128 ^ f' by rw [Int.pow_succ] at hyf; omega)
          clear hl e hyf
          go_wp2_with (first
            | (at_builtin
               refine wpList_app1 (cs := #[.int .u8 (128 + y % 128)]) rfl (.tmp 14) (.tmp 19) 26 rfl sByte hS 0 (n := m) rfl rfl rfl (by simp) rfl rfl (by omega) ?_
               intro A4 c4 w4 hS4 hC4))
          go_roundw
          case rel =>
            refine ⟨f', y / 128, A4, m + 1, c4, l ++ [128 + y % 128], by go_num, rfl, by omega, by omega, by omega, HP.out, by omega, by show _ = _; rw [← HE.out]; simp, by rw [bys_snoc]; exact hS4⟩
          case measure => simp [intOf]; omega
  exact key _ rfl z1 z2
end Go.Proofs.Ytaajkldhnjoicaa

namespace Go.Proofs.Ytaajkldhnjoicaa
open Go.RowKit

/-- k·b₀ + (k+1)·b₁ + .. -/
def tot : Int → List Int → Int
  | _, [] => 0
  | k, b :: l => k * b + tot (k + 1) l
def chk (l : List Int) : Int := tot 1 l % 65521
theorem tot_up (k : Int) (l : List Int) : tot (k + 1) l = tot k l + l.sum := by
  induction l generalizing k with
  | nil => rfl
  | cons b l ih => simp only [tot, List.sum_cons]; rw [ih (k + 1), Int.add_mul]; omega
theorem tot_snoc (k : Int) (l : List Int) (b : Int) : tot k (l ++ [b]) = tot k l + (k + l.length) * b := by
  induction l generalizing k with
  | nil => simp [tot]
  | cons a l ih => simp only [tot, List.cons_append, List.length_cons]; rw [ih (k + 1)]; rw [show k + 1 + (l.length : Int) = k + ((l.length + 1 : Nat) : Int) by omega]; omega
theorem tot_cons (b : Int) (l : List Int) : tot 1 (b :: l) = tot 1 l + (b + l.sum) := by simp only [tot]; rw [tot_up 1 l]; omega
theorem chk_range (l : List Int) : 0 ≤ chk l ∧ chk l < 65521 := by unfold chk; omega
theorem mul_mod_ (a b : Int) : (a % 65521 * b) % 65521 = (a * b) % 65521 := by rw [Int.mul_emod, Int.emod_emod_of_dvd _ (Int.dvd_refl _), ← Int.mul_emod]
theorem bys_at (l : List Int) (k : Nat) (h : k < l.length) : (bys l)[k]? = some (.int .u8 l[k]) := by simp [bys, List.getElem?_eq_getElem h]

set_option maxRecDepth 100000 in
set_option maxHeartbeats 4000000 in
theorem sumP_any (w : World) (D : Nat → Prop) (A : Option Addr) (n c : Nat) (l : List Int) (hn : n ≤ 4611686018427387903) (h : Rd w D 1 A n (bys l)) (hb : ∀ b ∈ l, 0 ≤ b ∧ b ≤ 255) :
    Calls Try.prog 45 #[.slice A n c] w fun e w' => e = .returned (.int .i64 (chk l)) ∧ w' = w := by
  have HL := hide (show l.length = n by have := h.1; simpa [bys] using this)
  have HB := hide hb
  clear hb
  go_enter Try.func45, Try.ntmps45
  go_wp2_with fail
  go_loop [3, 4, 5] (fun s a i => ∃ (k : Nat), k ≤ n ∧ i = .int .i64 ((k : Int) - 1) ∧ s = .int .i64 ((l.drop k).sum % 65521) ∧ a = .int .i64 (chk (l.drop k))) (fun _ _ i => (intOf i + 1).toNat)
  case atStart => exact ⟨n, by omega, rfl, by rw [List.drop_of_length_le (by rw [HL.out]; omega)]; rfl, by rw [List.drop_of_length_le (by rw [HL.out]; omega)]; rfl⟩
  case round =>
    obtain ⟨k, hk, rfl, rfl, rfl⟩ := hrel
    obtain ⟨r1, r2⟩ := chk_range (l.drop k)
    obtain ⟨S, hS⟩ : ∃ S, (l.drop k).sum % 65521 = S := ⟨_, rfl⟩
    have hS1 : 0 ≤ S ∧ S < 65521 := by omega
    obtain ⟨s1, s2⟩ := hS1
    obtain ⟨T, hT⟩ : ∃ T, chk (l.drop k) = T := ⟨_, rfl⟩
    rw [hT] at r1 r2 ⊢
    rw [hS]
    cases k with
    | zero =>
      rw [List.drop_zero] at hT
      have HT := hide hT
      clear hT hS
      go_wp2_with fail
      go_ret
      exact ⟨ret_int HT.out.symm, rfl⟩
    | succ k =>
      have hkl : k < l.length := by rw [HL.out]; omega
      obtain ⟨ad, rfl, _, _, hc⟩ := h.at_ (k := k) (by omega)
      have e0 := hc _ (bys_at l k hkl)
      have hx := HB.out _ (List.getElem_mem hkl)
      have HD := hide (show l.drop k = l[k] :: l.drop (k + 1) from List.drop_eq_getElem_cons hkl)
      obtain ⟨x, hx'⟩ : ∃ x, l[k] = x := ⟨_, rfl⟩
      rw [hx'] at e0 hx HD
      obtain ⟨x1, x2⟩ := hx
      have HS := hide hS
      have HT := hide hT
      have e1 : ((k : Int) + 1 - 1) = k := by omega
      clear hc hx' hS hT
      go_wp2_with fail
      go_round
      case rel =>
        refine ⟨k, by omega, by go_num, ?_, ?_⟩
        · exact congrArg _ (by rw [HD.out, List.sum_cons, ← HS.out]; omega)
        · exact congrArg _ (by rw [HD.out, chk, tot_cons, ← HT.out, ← HS.out, chk]; omega)
      case measure => simp [intOf]

set_option maxRecDepth 100000 in
set_option maxHeartbeats 4000000 in
theorem sumR_any (w : World) (D : Nat → Prop) (A : Option Addr) (n c : Nat) (l : List Int) (hn : n ≤ 4611686018427387903) (h : Rd w D 1 A n (bys l)) (hb : ∀ b ∈ l, 0 ≤ b ∧ b ≤ 255) :
    Calls Try.prog 46 #[.slice A n c] w fun e w' => e = .returned (.int .i64 (chk l)) ∧ w' = w := by
  have HL := hide (show l.length = n by have := h.1; simpa [bys] using this)
  have HB := hide hb
  clear hb
  go_enter Try.func46, Try.ntmps46
  go_wp2_with fail
  go_loop [3, 4] (fun s i => ∃ (k : Nat), k ≤ n ∧ i = .int .i64 k ∧ s = .int .i64 (chk (l.take k))) (fun _ i => n - (intOf i).toNat)
  case atStart => exact ⟨0, by omega, rfl, by simp [chk, tot]⟩
  case round =>
    obtain ⟨k, hk, rfl, rfl⟩ := hrel
    obtain ⟨r1, r2⟩ := chk_range (l.take k)
    obtain ⟨T, hT⟩ : ∃ T, chk (l.take k) = T := ⟨_, rfl⟩
    rw [hT] at r1 r2 ⊢
    by_cases hlt : k < n
    · have hkl : k < l.length := by rw [HL.out]; omega
      obtain ⟨ad, rfl, _, _, hc⟩ := h.at_ hlt
      have e0 := hc _ (bys_at l k hkl)
      have hx := HB.out _ (List.getElem_mem hkl)
      have HD := hide (List.take_succ_eq_append_getElem hkl)
      obtain ⟨x, hx'⟩ : ∃ x, l[k] = x := ⟨_, rfl⟩
      rw [hx'] at e0 hx HD
      obtain ⟨x1, x2⟩ := hx
      have HT := hide hT
      have HM := hide (mul_mod_ ((k : Int) + 1) x)
      have hm1 : 0 ≤ ((k : Int) + 1) % 65521 * x := Int.mul_nonneg (by omega) x1
      have hm2 : ((k : Int) + 1) % 65521 * x ≤ 65521 * 255 := Int.mul_le_mul (by omega) x2 x1 (by omega)
      clear hc hx' hT
      go_wp2_with fail
      go_round
      case rel =>
        refine ⟨k + 1, by omega, by go_num, ?_⟩
        refine congrArg _ ?_
        have := HM.out
        rw [HD.out, chk, tot_snoc, ← HT.out, chk, List.length_take, Nat.min_eq_left (by omega), show (1 : Int) + (k : Int) = (k : Int) + 1 by omega]
        omega
      case measure => simp [intOf]; omega
    · obtain rfl : k = n := by omega
      rw [show l.take k = l from List.take_of_length_le (by rw [HL.out]; omega)] at hT
      have HT := hide hT
      clear hT
      go_wp2_with fail
      go_ret
      exact ⟨ret_int HT.out.symm, rfl⟩

set_option maxRecDepth 100000 in
set_option maxHeartbeats 4000000 in
theorem bytes_any (w : World) (D D' : Nat → Prop) (A A' : Option Addr) (n c n' c' : Nat) (xs ys : List Int) (hn : n ≤ 4611686018427387903) (hn' : n' ≤ 4611686018427387903)
    (h : Rd w D 1 A n (bys xs)) (h' : Rd w D' 1 A' n' (bys ys)) :
    Calls Try.prog 16 #[.slice A n c, .slice A' n' c'] w fun e w' => e = .returned (.bool (decide (xs = ys))) ∧ Below w.heap.size w w' := by
  have HL := hide (show xs.length = n by have := h.1; simpa [bys] using this)
  have HL' := hide (show ys.length = n' by have := h'.1; simpa [bys] using this)
  by_cases hnn : n = n'
  · subst hnn
    have y1 : ((n : Int) != (n : Int)) = false := by simp
    go_enter Try.func16, Try.ntmps16
    go_wp2_with fail
    go_loopw [5] (fun i wr => ∃ k : Nat, k ≤ n ∧ i = .int .i64 k ∧ Below w.heap.size w wr ∧ Hid (xs.take k = ys.take k)) (fun i _ => n - (intOf i).toNat)
    case atStart => exact ⟨0, by omega, rfl, Below.refl _ _, by simp [Hid]⟩
    case round =>
      obtain ⟨k, hk, rfl, hB, hq⟩ := hrel
      by_cases hlt : k < n
      · have hkl : k < xs.length := by rw [HL.out]; exact hlt
        have hkl' : k < ys.length := by rw [HL'.out]; exact hlt
        obtain ⟨ad, hA, _, had, hc⟩ := (h.below hB).at_ hlt
        obtain ⟨ad', hA', _, had', hc'⟩ := (h'.below hB).at_ hlt
        have e0 := hc _ (bys_at xs k hkl)
        have e1 := hc' _ (bys_at ys k hkl')
        have HT := hide (List.take_succ_eq_append_getElem hkl)
        have HT' := hide (List.take_succ_eq_append_getElem hkl')
        obtain ⟨x, hx⟩ : ∃ x, xs[k] = x := ⟨_, rfl⟩
        obtain ⟨y, hy⟩ : ∃ y, ys[k] = y := ⟨_, rfl⟩
        rw [hx] at e0 HT
        rw [hy] at e1 HT'
        have HX := hide hx
        have HY := hide hy
        subst hA hA'
        clear hc hc' hx hy
        by_cases hxy : x = y
        · have y2 : (x != y) = false := by simp [hxy]
          have HXY := hide hxy
          clear hxy
          go_wp2_with fail
          go_quiet (fail)
          go_wp2_with fail
          go_roundw
          case rel => exact ⟨k + 1, by omega, by go_num, below_drewN hB _, by show _ = _; rw [HT.out, HT'.out, hq.out, HXY.out]⟩
          case measure => simp [intOf]; omega
        · have y2 : (x != y) = true := by simp [hxy]
          have HXY := hide hxy
          clear hxy
          go_wp2_with fail
          go_quiet (fail)
          go_wp2_with fail
          go_ret
          refine ⟨ret_bool ?_, below_drewN hB _⟩
          symm
          rw [decide_eq_false_iff_not]
          intro e
          subst e
          exact HXY.out (HX.out.symm.trans HY.out)
      · obtain rfl : k = n := by omega
        go_wp2_with fail
        go_ret
        refine ⟨ret_bool ?_, hB⟩
        have := hq.out
        rw [List.take_of_length_le (by rw [HL.out]; omega), List.take_of_length_le (by rw [HL'.out]; omega)] at this
        simp [this]
  · have y1 : ((n : Int) != (n' : Int)) = true := by simp; omega
    have HN := hide hnn
    clear hnn
    go_enter Try.func16, Try.ntmps16
    go_wp2_with fail
    go_ret
    refine ⟨ret_bool ?_, Below.refl _ _⟩
    symm
    rw [decide_eq_false_iff_not]
    intro e
    subst e
    exact HN.out (HL.out.symm.trans HL'.out)
end Go.Proofs.Ytaajkldhnjoicaa

namespace Go.Proofs.Ytaajkldhnjoicaa
open Go.RowKit

def valB (v : Val) : List Int := (if v.1 = true then 1 else 0) :: numB v.2
theorem valB_len (v : Val) : (valB v).length = (numB v.2).length + 1 := rfl
theorem sepNew {F : Nat → Prop} {W w w' : World} {items : List Item} (h : Sep F W w items) {i : Item} (h2 : Sep No w w' [i]) : Sep F W w' (items ++ [i]) :=
  h.snocNew h2.below_ i (h2.get 0 rfl) (fun g hg => (h2.lo 0 rfl g hg).resolve_left (fun h => h))

theorem bys_one (l : List Int) : ∀ u ∈ bys l, u.oneCell' = true := by
  intro u hu
  obtain ⟨x, _, rfl⟩ := List.mem_map.1 (show u ∈ l.map _ from hu)
  rfl
theorem rd_drew {w : World} {D : Nat → Prop} {size n : Nat} {A : Option Addr} {xs : List Value} (h : Rd w D size A n xs) : Rd w.drew D size A n xs := h.keep (Nat.le_refl _) (fun _ _ _ => rfl)

set_option maxRecDepth 100000 in
set_option maxHeartbeats 4000000 in
theorem value_any (w : World) (A : Option Addr) (n c : Nat) (xs : List Int) (q : Bool) (m : Int) (hn : n ≤ 1000000) (h1 : -9223372036854775808 ≤ m) (h2 : m ≤ 9223372036854775807) (hs : (rowI 5 1 A n c (bys xs)).P w) :
    Calls Try.prog 115 #[.slice A n c, .agg #[.bool q, .int .i64 m]] w fun e w' => ∃ A' c', e = .returned (.slice A' (n + (valB (q, m)).length) c') ∧ Sep (rowI 5 1 A n c (bys xs)).fp w w' [rowI 5 1 A' (n + (valB (q, m)).length) c' (bys (xs ++ valB (q, m)))] := by
  have HS0 := hide ((Sep.start hs).blkAt 86 #[.bool q, .int .i64 m] rfl)
  have HL := hide (numB_len m)
  have HV := hide (show valB (q, m) = (if q = true then 1 else 0) :: numB m from rfl)
  generalize valB (q, m) = V at HV ⊢
  have C1 := hide (fun w => numP_any w m h1 h2)
  generalize numB m = L at HL HV C1
  obtain ⟨a1, a2, a3, a4⟩ := HS0.out.rules 1 rfl
  have a5 : (w.alloc (.cells #[.bool q, .int .i64 m] 86)).cell? ⟨w.heap.size, 0, none⟩ = some (.bool q) := by rw [a1]; rfl
  have a6 : (w.alloc (.cells #[.bool q, .int .i64 m] 86)).cell? ⟨w.heap.size, 1, none⟩ = some (.int .i64 m) := by rw [a1]; rfl
  clear a1
  go_enter Try.func115, Try.ntmps115
  cases q with
  | false =>
    have HE := hide (show V = [0] ++ L from by rw [HV.out]; rfl)
    clear HV
    go_wp2_with fail
    have hSa := (HS0.out.alloc (.cells #[.int .u8 0] 5))
    have hRa := rd_new (w.alloc (.cells #[.bool false, .int .i64 m] 86)) 5 #[.int .u8 0] 1 rfl
    rw [World.size_alloc] at hRa
    go_region_law (first
      | (try go_simp
         go_at_call 17
         refine (C1.out _).mono ?_
         rintro e w5 ⟨A5, c5, rfl, hP5⟩
         have hb5 := hP5.below_
         (have hS5 := sepNew (by first | exact hSa | exact hSa.drew | exact hSa.drew.drew | exact hS4 | exact hS4.drew) hP5)
         (try (have hR5 := (by first | exact (hRa.below hb5) | exact ((rd_drew hRa).below hb5) | exact ((rd_drew (rd_drew hRa)).below hb5) : Rd w5 (fun _ => True) 1 (some ⟨w.heap.size + 1, 0, none⟩) 1 [.int .u8 0]))))
      | (refine step_app rfl (.tmp 8) (.tmp 10) 26 rfl sByte (by first | exact hS5 | exact hSa | exact hSa.drew | exact hSa.drew.drew) 0 (n := n) rfl rfl rfl (by first | exact hR5 | exact hRa | exact rd_drew hRa | exact rd_drew (rd_drew hRa)) (bys_one [0]) (by omega) ?_
         intro A4 c4 w4 hS4 hC4
         obtain ⟨z1, z2, z3, z4⟩ := hS4.rules 1 (g := w.heap.size) (t := 86) rfl
         (have z5 : w4.cell? ⟨w.heap.size, 1, none⟩ = some (.int .i64 m) := by rw [z1]; rfl)
         clear z1)
      | (refine step_app rfl (.tmp 11) (.tmp 14) 26 rfl sByte (by first | exact hS5 | exact hS4) 0 (n := n + 1) rfl rfl rfl (by first | exact hS5.rd_ 2 rfl | exact hS4.rd_ 2 rfl) (bys_one L) (by have := HL.out; omega) ?_
         intro A6 c6 w6 hS6 hC6))
    all_goals
      go_wp2_with fail
      go_ret
      have hS7 := hS6.sub (List.take_sublist 1 _)
      rw [show n + V.length = n + 1 + L.length by rw [HE.out, List.length_append, List.length_singleton, ← Nat.add_assoc]]
      refine ⟨A6, c6, rfl, ?_⟩
      rw [show bys (xs ++ V) = bys xs ++ bys [0] ++ bys L by rw [HE.out]; simp [bys]]
      exact hS7
  | true =>
    have HE := hide (show V = [1] ++ L from by rw [HV.out]; rfl)
    clear HV
    go_wp2_with fail
    have hSa := (HS0.out.alloc (.cells #[.int .u8 1] 5))
    have hRa := rd_new (w.alloc (.cells #[.bool true, .int .i64 m] 86)) 5 #[.int .u8 1] 1 rfl
    rw [World.size_alloc] at hRa
    go_region_law (first
      | (try go_simp
         go_at_call 17
         refine (C1.out _).mono ?_
         rintro e w5 ⟨A5, c5, rfl, hP5⟩
         have hb5 := hP5.below_
         (have hS5 := sepNew (by first | exact hSa | exact hSa.drew | exact hSa.drew.drew | exact hS4 | exact hS4.drew) hP5)
         (try (have hR5 := (by first | exact (hRa.below hb5) | exact ((rd_drew hRa).below hb5) | exact ((rd_drew (rd_drew hRa)).below hb5) : Rd w5 (fun _ => True) 1 (some ⟨w.heap.size + 1, 0, none⟩) 1 [.int .u8 1]))))
      | (refine step_app rfl (.tmp 8) (.tmp 10) 26 rfl sByte (by first | exact hS5 | exact hSa | exact hSa.drew | exact hSa.drew.drew) 0 (n := n) rfl rfl rfl (by first | exact hR5 | exact hRa | exact rd_drew hRa | exact rd_drew (rd_drew hRa)) (bys_one [1]) (by omega) ?_
         intro A4 c4 w4 hS4 hC4
         obtain ⟨z1, z2, z3, z4⟩ := hS4.rules 1 (g := w.heap.size) (t := 86) rfl
         (have z5 : w4.cell? ⟨w.heap.size, 1, none⟩ = some (.int .i64 m) := by rw [z1]; rfl)
         clear z1)
      | (refine step_app rfl (.tmp 11) (.tmp 14) 26 rfl sByte (by first | exact hS5 | exact hS4) 0 (n := n + 1) rfl rfl rfl (by first | exact hS5.rd_ 2 rfl | exact hS4.rd_ 2 rfl) (bys_one L) (by have := HL.out; omega) ?_
         intro A6 c6 w6 hS6 hC6))
    all_goals
      go_wp2_with fail
      go_ret
      have hS7 := hS6.sub (List.take_sublist 1 _)
      rw [show n + V.length = n + 1 + L.length by rw [HE.out, List.length_append, List.length_singleton, ← Nat.add_assoc]]
      refine ⟨A6, c6, rfl, ?_⟩
      rw [show bys (xs ++ V) = bys xs ++ bys [1] ++ bys L by rw [HE.out]; simp [bys]]
      exact hS7
end Go.Proofs.Ytaajkldhnjoicaa
