/- arena: values as words: the program's (a closure of Lay) and the reference's. arena: the reference's Plain and Lay. graph: a graph that a call hands back. -/
import Derived.Test.YtpbafmdebflbpaaGMarkTells2
import Derived.Test.YtpbafmdebflbpaaGMarkTells3
set_option linter.unusedSimpArgs false
set_option linter.unusedVariables false
namespace Go.Proofs.Ytpbafmdebflbpaa
open Go.RowKit

def u64s (l : List Int) : List Value := l.map (Value.int .u64)
theorem u64s_snoc (l : List Int) (x : Int) : u64s (l ++ [x]) = u64s l ++ [.int .u64 x] := by simp [u64s]
/-- A value's word, by the places of objects. -/
def packV (at_ : List Int) (v : Val) : Int := packA v.1 (if v.1 = true then at_.getD v.2.toNat 0 else v.2)
theorem sWord : SliceT Try.prog 53 24 1 8 := SliceT.mk_ Try.underlying53 (z := .int .u64 0) (by kernel_rfl) rfl (by omega)
theorem u64s_row {F : Nat → Prop} {W w : World} {items : List Item} (h : Sep F W w items) (k : Nat) {A : Option Addr} {n c : Nat} {l : List Int} (hk : items[k]? = some (rowI 24 1 A n c (u64s l))) : l.length = n := by
  have := (h.rd_ k hk).1; simpa [u64s] using this

set_option maxRecDepth 100000 in
set_option maxHeartbeats 4000000 in
theorem packed_any (w : World) (A At : Option Addr) (n c nt ct : Nat) (l : List Val) (at_ : List Int) (hn : n ≤ 1000) (_hnt : nt ≤ 1000) (hl : Rd w (fun _ => True) 2 A n (vals l)) (ha : Rd w (fun _ => True) 1 At nt (ints at_)) (hv : ∀ v ∈ l, v.1 = true → 0 ≤ v.2 ∧ v.2 < nt) :
    Calls Try.prog 63 #[.slice A n c, .slice At nt ct] w fun e w' => ∃ A' c', e = .returned (.slice A' n c') ∧ Sep No w w' [rowI 24 1 A' n c' (u64s (l.map (packV at_)))] := by
  have HLL := hide (show l.length = n by have := hl.1; rw [vals_length] at this; omega)
  have HAL := hide (show at_.length = nt by have := ha.1; simpa using this)
  have HS0 := hide ((Sep.nil No w).nilRow 24 1)
  go_enter Try.func63, Try.ntmps63
  go_wp2_with fail
  go_loopw [5, 12] (fun s5 i wr => ∃ (k : Nat) (A' : Option Addr) (c' : Nat), k ≤ n ∧ i = .int .i64 k ∧ s5 = .slice A' k c' ∧ Sep No w wr [rowI 24 1 A' k c' (u64s ((l.take k).map (packV at_)))]) (fun _ i _ => n - (intOf i).toNat)
  case atStart => exact ⟨0, none, 0, by omega, rfl, rfl, HS0.out⟩
  case round =>
    clear HS0
    obtain ⟨k, A', c', hk, rfl, rfl, hS⟩ := hrel
    by_cases hlt : k < n
    · have hkl : k < l.length := by rw [HLL.out]; exact hlt
      obtain ⟨ad, hA, _, had, hc, hd⟩ := (hl.below hS.below_).atN hlt
      obtain ⟨v0, v1⟩ := vals_at l k hkl
      have e0 := hc _ v0
      have e1 := hd 0 _ v1
      have HT := hide (List.take_succ_eq_append_getElem hkl)
      have hvk := hv _ (List.getElem_mem hkl)
      obtain ⟨x, hx⟩ : ∃ x, l[k] = x := ⟨_, rfl⟩
      rw [hx] at e0 e1 HT hvk
      subst hA
      clear hc hd v0 v1 hx
      obtain ⟨b, m⟩ := x
      dsimp only at e0 e1 hvk
      have hbS := fun o => (hS.alloc o).below_
      cases b with
      | false =>
        clear hvk
        go_wp2_with fail
        refine (packR_any _ false m).mono ?_
        rintro e w3 ⟨rfl, hB3⟩
        have hS3 := (hS.alloc _).below hB3
        go_wp2_with (first
          | (at_builtin
             refine wpList_app1 (cs := #[.int .u64 (packA false m)]) rfl (.tmp 29) (.tmp 31) 53 rfl sWord hS3 0 (n := k) rfl rfl rfl (by simp) rfl rfl (by omega) ?_
             intro A4 c4 w4 hS4 hC4))
        go_roundw
        case rel => exact ⟨k + 1, A4, c4, by omega, by go_num, rfl, by rw [HT.out, List.map_append, List.map_cons, List.map_nil, u64s_snoc]; exact hS4⟩
        case measure => simp [intOf]; omega
      | true =>
        obtain ⟨hm0, hmn⟩ := hvk rfl
        obtain ⟨j, rfl⟩ := Int.eq_ofNat_of_zero_le hm0
        have hjn : j < nt := by omega
        have hjl : j < at_.length := by rw [HAL.out]; exact hjn
        obtain ⟨ad2, hA2, _, had2, hc2⟩ := (ha.below (hbS (.cells #[.bool true, .int .i64 j] 32))).at_ hjn
        have e2 := hc2 (.int .i64 at_[j]) (by simp [ints, List.getElem?_eq_getElem hjl])
        have HX := hide (show packV at_ (true, (j : Int)) = packA true at_[j] from by unfold packV; simp [List.getD_eq_getElem?_getD, List.getElem?_eq_getElem hjl])
        obtain ⟨y, hy⟩ : ∃ y, at_[j] = y := ⟨_, rfl⟩
        rw [hy] at e2 HX
        rw [hA2]
        have HA2 := hide hA2
        clear hc2 hy hm0 hmn hA2
        go_wp2_with fail
        refine (packR_any _ true y).mono ?_
        rintro e w3 ⟨rfl, hB3⟩
        have hS3 := (hS.alloc _).below hB3
        go_wp2_with (first
          | (at_builtin
             refine wpList_app1 (cs := #[.int .u64 (packA true y)]) rfl (.tmp 29) (.tmp 31) 53 rfl sWord hS3 0 (n := k) rfl rfl rfl (by simp) rfl rfl (by omega) ?_
             intro A4 c4 w4 hS4 hC4))
        go_roundw
        case rel => exact ⟨k + 1, A4, c4, by omega, by go_num, rfl, by rw [HT.out, List.map_append, List.map_cons, List.map_nil, HX.out, u64s_snoc]; exact hS4⟩
        case measure => simp [intOf]; omega
    · obtain rfl : k = n := by omega
      rw [show l.take k = l from List.take_of_length_le (by rw [HLL.out]; omega)] at hS
      go_wp2_with fail
      go_ret
      exact ⟨A', c', rfl, hS⟩
set_option maxRecDepth 100000 in
set_option maxHeartbeats 4000000 in
theorem pack_any (w : World) (D : Nat → Prop) (Aw A At : Option Addr) (nw cw n c nt ct b : Nat) (xs : List Int) (l : List Val) (at_ : List Int) (hn : n ≤ 1000) (_hnt : nt ≤ 1000) (hnw : nw ≤ 1000) (hw : (rowI 24 1 Aw nw cw (u64s xs)).P w) (hD : ∀ g, (rowI 24 1 Aw nw cw (u64s xs)).fp g → ¬ D g) (hb : Blk w b 108 #[.slice At nt ct]) (hbD : D b) (hl : Rd w D 2 A n (vals l)) (ha : Rd w D 1 At nt (ints at_)) (hv : ∀ v ∈ l, v.1 = true → 0 ≤ v.2 ∧ v.2 < nt) :
    Calls Try.prog 59 #[.slice Aw nw cw, .slice A n c, .pointer (some ⟨b, 0, none⟩)] w fun e w' => ∃ A' c', e = .returned (.slice A' (nw + n) c') ∧ Sep (rowI 24 1 Aw nw cw (u64s xs)).fp w w' [rowI 24 1 A' (nw + n) c' (u64s (xs ++ l.map (packV at_)))] := by
  have HLL := hide (show l.length = n by have := hl.1; rw [vals_length] at this; omega)
  have HAL := hide (show at_.length = nt by have := ha.1; simpa using this)
  obtain ⟨F, hF⟩ : ∃ F, (rowI 24 1 Aw nw cw (u64s xs)).fp = F := ⟨_, rfl⟩
  have HS0 := hide (Sep.start hw)
  rw [hF] at HS0 hD ⊢
  clear hF hw
  go_enter Try.func59, Try.ntmps59
  go_wp2_with fail
  go_loopw [0, 12] (fun s5 i wr => ∃ (k : Nat) (A' : Option Addr) (c' : Nat), k ≤ n ∧ i = .int .i64 k ∧ s5 = .slice A' (nw + k) c' ∧ Sep F w wr [rowI 24 1 A' (nw + k) c' (u64s (xs ++ (l.take k).map (packV at_)))]) (fun _ i _ => n - (intOf i).toNat)
  case atStart => exact ⟨0, Aw, cw, by omega, rfl, rfl, by simpa using HS0.out⟩
  case round =>
    clear HS0
    obtain ⟨k, A', c', hk, rfl, rfl, hS⟩ := hrel
    by_cases hlt : k < n
    · have hkl : k < l.length := by rw [HLL.out]; exact hlt
      obtain ⟨ad, hA, _, had, hc, hd⟩ := (hl.chg hS.bel hD).atN hlt
      obtain ⟨v0, v1⟩ := vals_at l k hkl
      have e0 := hc _ v0
      have e1 := hd 0 _ v1
      have HT := hide (List.take_succ_eq_append_getElem hkl)
      have hvk := hv _ (List.getElem_mem hkl)
      obtain ⟨x, hx⟩ : ∃ x, l[k] = x := ⟨_, rfl⟩
      rw [hx] at e0 e1 HT hvk
      subst hA
      clear hc hd v0 v1 hx
      obtain ⟨q, m⟩ := x
      dsimp only at e0 e1 hvk
      have hbS := fun o => (hS.alloc o).bel
      obtain ⟨b1, b2, b3⟩ := (hb.chg hS.bel (fun h => hD b h hbD)).rules
      cases q with
      | false =>
        clear hvk
        go_wp2_with fail
        refine (packP_any _ false m).mono ?_
        rintro e w3 ⟨rfl, hB3⟩
        have hS3 := (hS.alloc _).below hB3
        go_wp2_with (first
          | (at_builtin
             refine wpList_app1 (cs := #[.int .u64 (packA false m)]) rfl (.tmp 29) (.tmp 31) 53 rfl sWord hS3 0 (n := nw + k) rfl rfl rfl (by simp) rfl rfl (by omega) ?_
             intro A4 c4 w4 hS4 hC4))
        go_roundw
        case rel => exact ⟨k + 1, A4, c4, by omega, by go_num, rfl, by rw [HT.out, List.map_append, List.map_cons, List.map_nil, ← List.append_assoc, u64s_snoc]; exact hS4⟩
        case measure => simp [intOf]; omega
      | true =>
        obtain ⟨hm0, hmn⟩ := hvk rfl
        obtain ⟨j, rfl⟩ := Int.eq_ofNat_of_zero_le hm0
        have hjn : j < nt := by omega
        have hjl : j < at_.length := by rw [HAL.out]; exact hjn
        obtain ⟨ad2, hA2, _, had2, hc2⟩ := (ha.chg (hbS (.cells #[.bool true, .int .i64 j] 32)) hD).at_ hjn
        have e2 := hc2 (.int .i64 at_[j]) (by simp [ints, List.getElem?_eq_getElem hjl])
        have HX := hide (show packV at_ (true, (j : Int)) = packA true at_[j] from by unfold packV; simp [List.getD_eq_getElem?_getD, List.getElem?_eq_getElem hjl])
        obtain ⟨y, hy⟩ : ∃ y, at_[j] = y := ⟨_, rfl⟩
        rw [hy] at e2 HX
        subst hA2
        clear hc2 hy hm0 hmn
        go_wp2_with fail
        refine (packP_any _ true y).mono ?_
        rintro e w3 ⟨rfl, hB3⟩
        have hS3 := (hS.alloc _).below hB3
        go_wp2_with (first
          | (at_builtin
             refine wpList_app1 (cs := #[.int .u64 (packA true y)]) rfl (.tmp 29) (.tmp 31) 53 rfl sWord hS3 0 (n := nw + k) rfl rfl rfl (by simp) rfl rfl (by omega) ?_
             intro A4 c4 w4 hS4 hC4))
        go_roundw
        case rel => exact ⟨k + 1, A4, c4, by omega, by go_num, rfl, by rw [HT.out, List.map_append, List.map_cons, List.map_nil, HX.out, ← List.append_assoc, u64s_snoc]; exact hS4⟩
        case measure => simp [intOf]; omega
    · obtain rfl : k = n := by omega
      rw [show l.take k = l from List.take_of_length_le (by rw [HLL.out]; omega)] at hS
      go_wp2_with fail
      go_ret
      exact ⟨A', c', rfl, hS⟩
end Go.Proofs.Ytpbafmdebflbpaa

namespace Go.Proofs.Ytpbafmdebflbpaa
open Go.RowKit

def sAt (obs : List Ob) (k : Nat) : Int := ((obs.take k).map fun o => (1 : Int) + (o.n : Int)).sum
def atL (obs : List Ob) (k : Nat) : List Int := (List.range k).map (sAt obs)
def wordsL (at_ : List Int) (obs : List Ob) : List Int := obs.flatMap fun o => headW o.n false 0 :: o.fields.map (packV at_)
def vheads (obs : List Ob) : List Value := obs.flatMap fun o => [.int .i64 o.n, .bool false, .int .i64 0]
theorem sI64 : SliceT Try.prog 108 2 1 8 := SliceT.mk_ Try.underlying108 (z := .int .i64 0) (by kernel_rfl) rfl (by omega)
theorem sHead : SliceT Try.prog 61 23 3 24 := SliceT.mk_ Try.underlying61 (z := .agg #[.int .i64 0, .bool false, .int .i64 0]) (by kernel_rfl) rfl (by omega)
theorem ints_snoc (l : List Int) (x : Int) : ints (l ++ [x]) = ints l ++ [.int .i64 x] := by simp [ints]
theorem atL_succ (obs : List Ob) (k : Nat) : atL obs (k + 1) = atL obs k ++ [sAt obs k] := by simp [atL, List.range_succ]
theorem sAt_succ (obs : List Ob) (k : Nat) (o : Ob) (h : obs.take (k + 1) = obs.take k ++ [o]) : sAt obs (k + 1) = sAt obs k + (1 + (o.n : Int)) := by unfold sAt; rw [h]; simp
theorem sAt_bound (obs : List Ob) (k : Nat) (h : ∀ o ∈ obs, o.n ≤ 4) : 0 ≤ sAt obs k ∧ sAt obs k ≤ 5 * k := by
  have key : ∀ l : List Ob, (∀ o ∈ l, o.n ≤ 4) → 0 ≤ (l.map fun o => (1 : Int) + (o.n : Int)).sum ∧ (l.map fun o => (1 : Int) + (o.n : Int)).sum ≤ 5 * l.length := by
    intro l hl
    induction l with
    | nil => simp
    | cons a l ih =>
      have h1 := hl a (by simp)
      have h2 := ih (fun o ho => hl o (by simp [ho]))
      simp only [List.map_cons, List.sum_cons, List.length_cons]
      omega
  have := key (obs.take k) (fun o ho => h o (List.mem_of_mem_take ho))
  rw [List.length_take] at this
  unfold sAt
  omega
theorem wordsL_snoc (at_ : List Int) (l : List Ob) (o : Ob) : wordsL at_ (l ++ [o]) = wordsL at_ l ++ headW o.n false 0 :: o.fields.map (packV at_) := by simp [wordsL]
theorem wordsL_len (at_ : List Int) (l : List Ob) (h : ∀ o ∈ l, o.fields.length ≤ 4) : (wordsL at_ l).length ≤ 5 * l.length := by
  induction l with
  | nil => simp [wordsL]
  | cons a l ih =>
    have h1 := h a (by simp)
    have h2 := ih (fun o ho => h o (by simp [ho]))
    unfold wordsL at *
    simp only [List.flatMap_cons, List.length_append, List.length_cons, List.length_map]
    omega
theorem vheads_length (l : List Ob) : (vheads l).length = l.length * 3 := by
  unfold vheads; induction l with
  | nil => rfl
  | cons a l ih => simp [List.flatMap_cons] at ih ⊢; omega
theorem vheads_at (l : List Ob) (k : Nat) (h : k < l.length) : (vheads l)[k * 3]? = some (.int .i64 l[k].n) ∧ (vheads l)[k * 3 + (0 + 1)]? = some (.bool false) ∧ (vheads l)[k * 3 + (1 + 1)]? = some (.int .i64 0) := by
  unfold vheads
  induction l generalizing k with
  | nil => simp at h
  | cons a l ih =>
    cases k with
    | zero => exact ⟨rfl, rfl, rfl⟩
    | succ k =>
      have h' : k < l.length := by simpa using h
      have := ih k h'
      simp only [List.flatMap_cons]
      rw [show (k + 1) * 3 = k * 3 + 3 from by omega]
      simpa [Nat.add_right_comm _ 3] using this
theorem vheads_snoc (l : List Ob) (o : Ob) : vheads (l ++ [o]) = vheads l ++ [.int .i64 o.n, .bool false, .int .i64 0] := by simp [vheads]

set_option maxRecDepth 100000 in
set_option maxHeartbeats 4000000 in
theorem plain_any (w : World) (AO AR : Option Addr) (nO cO nR cR : Nat) (obs : List Ob) (hO : ObsRd w (fun _ => True) AO nO obs) (h1 : nO ≤ 24) :
    Calls Try.prog 30 #[.agg #[.slice AO nO cO, .slice AR nR cR]] w fun e w' => ∃ A c, e = .returned (.slice A nO c) ∧ Sep No w w' [rowI 23 3 A nO c (vheads obs)] := by
  have HOL := hide hO.len
  have HS0 := hide ((((Sep.nil No w).blkAt 52 #[.slice AO nO cO, .slice AR nR cR] rfl).nilRow0 23 3))
  go_enter Try.func30, Try.ntmps30
  go_wp2_with fail
  go_loopw [3, 9] (fun s3 i wr => ∃ (k : Nat) (A : Option Addr) (c : Nat), k ≤ nO ∧ i = .int .i64 k ∧ s3 = .slice A k c ∧ Sep No w wr (rowI 23 3 A k c (vheads (obs.take k)) :: [blkI w.heap.size 52 #[.slice AO nO cO, .slice AR nR cR]])) (fun _ i _ => nO - (intOf i).toNat)
  case atStart => exact ⟨0, none, 0, by omega, rfl, rfl, by simpa [vheads] using HS0.out⟩
  case round =>
    clear HS0
    obtain ⟨k, A, c, hk, rfl, rfl, hS⟩ := hrel
    by_cases hlt : k < nO
    · have hkl : k < obs.length := by rw [HOL.out]; exact hlt
      obtain ⟨ad, hA, _, had, hc⟩ := (hO.below hS.below_).row.at_ hlt
      have e0 := hc obs[k].val (by simp [List.getElem?_eq_getElem hkl])
      have HT := hide (List.take_succ_eq_append_getElem hkl)
      obtain ⟨o, ho⟩ : ∃ o, obs[k] = o := ⟨_, rfl⟩
      rw [ho] at e0 HT
      unfold Ob.val at e0
      subst hA
      clear hc ho
      go_wp2_with (first
        | (at_builtin
           refine wpList_app1 (cs := #[.int .i64 o.n, .bool false, .int .i64 0]) rfl (.tmp 13) (.tmp 18) 61 rfl sHead (hS.alloc _) 0 (n := k) rfl rfl rfl (by simp) rfl rfl (by omega) ?_
           intro A4 c4 w4 hS4 hC4))
      go_roundw
      case rel => exact ⟨k + 1, A4, c4, by omega, by go_num, rfl, by rw [HT.out, vheads_snoc]; exact hS4⟩
      case measure => simp [intOf]; omega
    · obtain rfl : k = nO := by omega
      rw [show obs.take k = obs from List.take_of_length_le (by rw [HOL.out]; omega)] at hS
      go_wp2_with fail
      go_ret
      exact ⟨A, c, rfl, hS.sub (by simp)⟩

def ArenaRd (w0 w : World) (v : Value) (ws rs : List Int) : Prop :=
  ∃ A1 n1 c1 A2 n2 c2, v = .agg #[.slice A1 n1 c1, .slice A2 n2 c2] ∧ Rd w (fun g => w0.heap.size ≤ g) 1 A1 n1 (u64s ws) ∧ Rd w (fun g => w0.heap.size ≤ g) 1 A2 n2 (u64s rs)

set_option maxRecDepth 100000 in
set_option maxHeartbeats 16000000 in
theorem refLay_any (w : World) (AO AR AH : Option Addr) (nO cO nR cR cH : Nat) (obs : List Ob) (roots : List Val) (hO : ObsRd w (fun _ => True) AO nO obs) (hR : Rd w (fun _ => True) 2 AR nR (vals roots)) (hH : Rd w (fun _ => True) 3 AH nO (vheads obs)) (h1 : nO ≤ 24) (h2 : nR ≤ 8) (hfl : ∀ o ∈ obs, o.n ≤ 4)
    (hvO : ∀ o ∈ obs, ∀ v ∈ o.fields, v.1 = true → 0 ≤ v.2 ∧ v.2 < nO) (hvR : ∀ v ∈ roots, v.1 = true → 0 ≤ v.2 ∧ v.2 < nO) :
    Calls Try.prog 29 #[.agg #[.slice AO nO cO, .slice AR nR cR], .slice AH nO cH] w fun e w' => ∃ v, e = .returned v ∧ Below w.heap.size w w' ∧ ArenaRd w w' v (wordsL (atL obs nO) obs) (roots.map (packV (atL obs nO))) := by
  have HOL := hide hO.len
  have HSB := hide (fun k => sAt_bound obs k hfl)
  have HFL := hide hfl
  have HVO := hide hvO
  have HVR := hide hvR
  have HS0 := hide ((((Sep.nil No w).blkAt 52 #[.slice AO nO cO, .slice AR nR cR] rfl).blkAt 55 #[.slice none 0 0, .slice none 0 0] (g := w.heap.size + 1) (by simp)).nilRow0 2 1)
  clear hfl hvO hvR
  go_enter Try.func29, Try.ntmps29
  go_wp2_with fail
  go_loopw [5, 6, 19] (fun s5 s6 i wr => ∃ (k : Nat) (A : Option Addr) (c : Nat), k ≤ nO ∧ i = .int .i64 k ∧ s5 = .slice A k c ∧ s6 = .int .i64 (sAt obs k) ∧ Sep No w wr (rowI 2 1 A k c (ints (atL obs k)) :: [blkI w.heap.size 52 #[.slice AO nO cO, .slice AR nR cR], blkI (w.heap.size + 1) 55 #[.slice none 0 0, .slice none 0 0]])) (fun _ _ i _ => nO - (intOf i).toNat)
  case atStart => exact ⟨0, none, 0, by omega, rfl, rfl, by simp [sAt], by simpa [atL] using HS0.out⟩
  case round =>
    clear HS0
    obtain ⟨k, A, c, hk, rfl, rfl, rfl, hS⟩ := hrel
    by_cases hlt : k < nO
    · have hkl : k < obs.length := by rw [HOL.out]; exact hlt
      obtain ⟨ad, hA, _, had, hc⟩ := (hO.below hS.below_).row.at_ hlt
      have e0 := hc obs[k].val (by simp [List.getElem?_eq_getElem hkl])
      have hon := HFL.out _ (List.getElem_mem hkl)
      have HT := hide (List.take_succ_eq_append_getElem hkl)
      obtain ⟨o, ho⟩ : ∃ o, obs[k] = o := ⟨_, rfl⟩
      rw [ho] at e0 HT hon
      have HA := hide (sAt_succ obs k o HT.out)
      unfold Ob.val at e0
      subst hA
      obtain ⟨b1, b2⟩ := HSB.out k
      obtain ⟨y, hy⟩ : ∃ y, sAt obs k = y := ⟨_, rfl⟩
      have HY := hide hy
      rw [hy] at b1 b2 ⊢
      clear hc ho hy
      go_wp2_with (first
        | (at_builtin
           refine wpList_app1 (cs := #[.int .i64 y]) rfl (.tmp 23) (.tmp 25) 108 rfl sI64 (hS.alloc _) 0 (n := k) rfl rfl rfl (by simp) rfl rfl (by omega) ?_
           intro A4 c4 w4 hS4 hC4
           (have e4 : w4.cell? ⟨wr.heap.size, 0, none⟩ = some (.slice o.A o.n o.c) := by
              have hB := (Blk.new wr 110 #[.slice o.A o.n o.c]).chg hC4 (fun h => by have := hS.hi 0 rfl _ h; omega)
              rw [hB.cell]; rfl)))
      go_roundw
      case rel =>
        refine ⟨k + 1, A4, c4, by omega, by go_num, rfl, ?_, ?_⟩
        · rw [HA.out, HY.out]; go_num
        · rw [atL_succ, HY.out, ints_snoc]; exact hS4
      case measure => simp [intOf]; omega
    · obtain rfl : k = nO := by omega
      obtain ⟨g1, g2, g3, g4⟩ := hS.rules 1 (g := w.heap.size) (t := 52) rfl
      go_wp2_with fail
      refine (packed_any wr AR A nR cR k c roots (atL obs k) (by omega) (by omega) (hR.below hS.below_) (hS.rd_ 0 rfl) HVR.out).mono ?_
      rintro e w3 ⟨Ar, cr, rfl, hP⟩
      have hS3 := hS.snocNew hP.below_ _ (hP.get 0 rfl) (fun g hg => (hP.lo 0 rfl g hg).resolve_left (fun h => h))
      clear g1 g2 g3 g4
      obtain ⟨g1, g2, g3, g4⟩ := hS3.rules 1 (g := w.heap.size) (t := 52) rfl
      have HS4 := hide ((hS3.blkAt 55 #[.slice none 0 0, .slice Ar nR cr] rfl).nilRow0 24 1)
      clear hS hP hS3
      go_wp2_with fail
      clear g1 g2 g3 g4
      go_loopw [42] (fun i w5 => ∃ (j m : Nat) (Aw : Option Addr) (cw : Nat), j ≤ k ∧ i = .int .i64 j ∧ Sep No w w5 [rowI 24 1 Aw m cw (u64s (wordsL (atL obs k) (obs.take j))), rowI 2 1 A k c (ints (atL obs k)), blkI w.heap.size 52 #[.slice AO k cO, .slice AR nR cR], blkI (w.heap.size + 1) 55 #[.slice none 0 0, .slice none 0 0], rowI 24 1 Ar nR cr (u64s (roots.map (packV (atL obs k)))), blkI w3.heap.size 55 #[.slice Aw m cw, .slice Ar nR cr]]) (fun i _ => k - (intOf i).toNat)
      case atStart => exact ⟨0, 0, none, 0, by omega, rfl, HS4.out⟩
      case round =>
        clear HS4
        obtain ⟨j, m, Aw, cw, hj, rfl, hS⟩ := hrel
        have hm := u64s_row hS 0 rfl
        have hml := wordsL_len (atL obs k) (obs.take j) (fun o ho => by
          have h5 := List.mem_of_mem_take ho
          rw [hO.flen h5]
          exact HFL.out o h5)
        have hm2 : m ≤ 5 * j := by
          rw [List.length_take] at hml
          omega
        clear hm hml
        by_cases hlt2 : j < k
        · have hjl : j < obs.length := by rw [HOL.out]; exact hlt2
          obtain ⟨ad, hA, _, had, hc⟩ := (hO.below hS.below_).row.at_ hlt2
          have e0 := hc obs[j].val (by simp [List.getElem?_eq_getElem hjl])
          obtain ⟨v0, v1, v2⟩ := vheads_at obs j hjl
          have hon := HFL.out _ (List.getElem_mem hjl)
          have hEach := hO.each _ (List.getElem_mem hjl)
          have hVo := HVO.out _ (List.getElem_mem hjl)
          have hFl := hO.flen (List.getElem_mem hjl)
          have HT := hide (List.take_succ_eq_append_getElem hjl)
          obtain ⟨o, ho⟩ : ∃ o, obs[j] = o := ⟨_, rfl⟩
          rw [ho] at e0 v0 HT hon hEach hVo hFl
          unfold Ob.val at e0
          subst hA
          have HVo := hide hVo
          have hS5 := hS.blkAt 110 #[.slice o.A o.n o.c] rfl
          obtain ⟨ad2, hA2, _, had2, hc2, hd2⟩ := (hH.below hS5.below_).atN hlt2
          have t0 := hc2 _ v0
          have t1 := hd2 0 _ v1
          have t2 := hd2 1 _ v2
          subst hA2
          have hneA : w3.heap.size ≠ wr.heap.size := by have := hS.hi 5 rfl w3.heap.size rfl; omega
          clear hc ho hc2 hd2 v0 v1 v2 hVo
          go_wp2_with fail
          refine (head15_ok _ (o.n : Int) 0 false (by omega) (by omega) (by omega) (by omega)).mono ?_
          rintro e w6 ⟨rfl, hB6⟩
          have hS6 := hS5.below hB6
          clear hS5 hB6 e0 t0 t1 t2 had had2
          obtain ⟨a1, a2, a3, a4⟩ := hS6.rules 5 (g := w3.heap.size) (t := 55) rfl
          go_wp2_with (first
            | (at_builtin
               refine wpList_app1 (cs := #[.int .u64 (headW o.n false 0)]) rfl (.tmp 56) (.tmp 58) 53 rfl sWord hS6 0 (n := m) rfl rfl rfl (by simp) rfl rfl (by omega) ?_
               intro A7 c7 w7 hS7 hC7
               obtain ⟨z1, z2, z3, z4⟩ := hS7.rules 5 (g := w3.heap.size) (t := 55) rfl
               (have z5 : ∀ v, (w7.setCell ⟨w3.heap.size, 0, none⟩ v).cell? ⟨wr.heap.size, 0, none⟩ = some (.slice o.A o.n o.c) := fun v => by
                  rw [World.cell?_setCell_other _ _ _ _ (fun e => hneA (congrArg Addr.block e))]
                  obtain ⟨q1, _⟩ := hS7.rules 6 (g := wr.heap.size) (t := 110) rfl
                  rw [q1]; rfl)))
          have hS8 := hS7.set_ 5 (g := w3.heap.size) (t := 55) rfl 0 (.slice A7 (m + 1) c7)
          refine (packed_any _ o.A A o.n o.c k c o.fields (atL obs k) (by omega) (by omega) (hEach.below hS8.below_) (hS8.rd_ 1 rfl) HVo.out).mono ?_
          rintro e w9 ⟨Ap, cp, rfl, hP9⟩
          have hS9 := hS8.snocNew hP9.below_ _ (hP9.get 0 rfl) (fun g hg => (hP9.lo 0 rfl g hg).resolve_left (fun h => h))
          have HS9 := hide hS9
          clear hS hS6 hS7 hS8 hS9 hP9 a1 a2 a3 a4 z1 z2 z3 z4 z5 hC7
          go_wp2_with fail
          go_loopw [66] (fun i w5 => ∃ (p m : Nat) (Aw : Option Addr) (cw : Nat), p ≤ o.n ∧ i = .int .i64 p ∧ m ≤ 5 * j + 1 + p ∧ Sep No w w5 [rowI 24 1 Aw m cw (u64s (wordsL (atL obs k) (obs.take j) ++ [headW o.n false 0] ++ (o.fields.map (packV (atL obs k))).take p)), rowI 2 1 A k c (ints (atL obs k)), blkI w.heap.size 52 #[.slice (some ad) k cO, .slice AR nR cR], blkI (w.heap.size + 1) 55 #[.slice none 0 0, .slice none 0 0], rowI 24 1 Ar nR cr (u64s (roots.map (packV (atL obs k)))), blkI w3.heap.size 55 #[.slice Aw m cw, .slice Ar nR cr], blkI wr.heap.size 110 #[.slice o.A o.n o.c], rowI 24 1 Ap o.n cp (u64s (o.fields.map (packV (atL obs k))))]) (fun i _ => o.n - (intOf i).toNat)
          case atStart => exact ⟨0, m + 1, A7, c7, by omega, rfl, by omega, by simpa [u64s] using HS9.out⟩
          case round =>
            clear HS9 hm2
            obtain ⟨p, m, Aw, cw, hp, rfl, hm2, hS⟩ := hrel
            by_cases hlp : p < o.n
            · have hpl : p < (o.fields.map (packV (atL obs k))).length := by rw [List.length_map]; omega
              obtain ⟨ad3, hA3, _, had3, hc3⟩ := (hS.rd_ 7 rfl).at_ hlp
              have e0 := hc3 (.int .u64 (o.fields.map (packV (atL obs k)))[p]) (by simp [u64s, List.getElem?_eq_getElem (show p < o.fields.length by omega)])
              have HT3 := hide (List.take_succ_eq_append_getElem hpl)
              obtain ⟨y, hy⟩ : ∃ y, (o.fields.map (packV (atL obs k)))[p] = y := ⟨_, rfl⟩
              rw [hy] at e0 HT3
              rw [hA3]
              have HA3 := hide hA3
              obtain ⟨a1, a2, a3, a4⟩ := hS.rules 5 (g := w3.heap.size) (t := 55) rfl
              clear hc3 hy hA3
              go_wp2_with (first
                | (at_builtin
                   refine wpList_app1 (cs := #[.int .u64 y]) rfl (.tmp 71) (.tmp 73) 53 rfl sWord hS 0 (n := m) rfl rfl rfl (by simp) rfl rfl (by omega) ?_
                   intro A4 c4 w4 hS4 hC4
                   obtain ⟨z1, z2, z3, z4⟩ := hS4.rules 5 (g := w3.heap.size) (t := 55) rfl))
              go_roundw
              case rel =>
                refine ⟨p + 1, m + 1, A4, c4, by omega, by go_num, by omega, ?_⟩
                rw [HT3.out, ← List.append_assoc, u64s_snoc, ← HA3.out]
                exact hS4.set_ 5 (g := w3.heap.size) (t := 55) rfl 0 (.slice A4 (m + 1) c4)
              case measure => simp [intOf]; omega
            · obtain rfl : p = o.n := by omega
              rw [show (o.fields.map (packV (atL obs k))).take o.n = o.fields.map (packV (atL obs k)) from List.take_of_length_le (by rw [List.length_map]; omega)] at hS
              have hS' := hS.sub (List.take_sublist 6 _)
              go_wp2_with fail
              go_roundw
              case rel => exact ⟨j + 1, m, Aw, cw, by omega, by go_num, by rw [HT.out, wordsL_snoc, List.append_cons]; exact hS'⟩
              case measure => simp [intOf]; omega
        · obtain rfl : j = k := by omega
          rw [show obs.take j = obs from List.take_of_length_le (by rw [HOL.out]; omega)] at hS
          obtain ⟨a1, a2, a3, a4⟩ := hS.rules 5 (g := w3.heap.size) (t := 55) rfl
          obtain ⟨y1, y2, y3, y4⟩ := hS.rules 3 (g := w.heap.size + 1) (t := 55) rfl
          go_wp2_with fail
          have hF := (hS.set_ 3 (g := w.heap.size + 1) (t := 55) rfl 0 (.slice Aw m cw)).set_ 3 (g := w.heap.size + 1) (t := 55) rfl 1 (.slice Ar nR cr)
          refine bodyPost_ret (v := .agg #[.slice Aw m cw, .slice Ar nR cr]) (by simp [results, Try.results29, go_sem, y1]) rfl ⟨_, rfl, hF.below_, ?_⟩
          exact ⟨_, _, _, _, _, _, rfl, hF.rd 0 rfl, hF.rd 4 rfl⟩
end Go.Proofs.Ytpbafmdebflbpaa

namespace Go.Proofs.Ytpbafmdebflbpaa
open Go.RowKit

structure GraphRd (w : World) (D : Nat → Prop) (v : Value) (fss : List (List Val)) (roots : List Val) : Prop where
  ex : ∃ AO nO cO AR nR cR obs, v = .agg #[.slice AO nO cO, .slice AR nR cR] ∧ ObsRd w D AO nO obs ∧ obs.map Ob.fields = fss ∧ Rd w D 2 AR nR (vals roots)
theorem GraphRd.below {w w' : World} {D : Nat → Prop} {v : Value} {fss : List (List Val)} {roots : List Val} (h : GraphRd w D v fss roots) (hb : Below w.heap.size w w') : GraphRd w' D v fss roots := by
  obtain ⟨AO, nO, cO, AR, nR, cR, obs, h1, h2, h3, h4⟩ := h.ex
  exact ⟨AO, nO, cO, AR, nR, cR, obs, h1, h2.below hb, h3, h4.below hb⟩
theorem GraphRd.more {w : World} {D D' : Nat → Prop} {v : Value} {fss : List (List Val)} {roots : List Val} (h : GraphRd w D v fss roots) (hD : ∀ k, k < w.heap.size → D k → D' k) : GraphRd w D' v fss roots := by
  obtain ⟨AO, nO, cO, AR, nR, cR, obs, h1, h2, h3, h4⟩ := h.ex
  exact ⟨AO, nO, cO, AR, nR, cR, obs, h1, h2.more hD, h3, h4.more hD⟩
theorem GraphRd.nil (w : World) (D : Nat → Prop) : GraphRd w D (.agg #[.slice none 0 0, .slice none 0 0]) [] [] := ⟨none, 0, 0, none, 0, 0, [], rfl, ⟨Rd.nil, by simp⟩, rfl, Rd.nil⟩
theorem sObj : SliceT Try.prog 49 110 1 24 := SliceT.mk_ Try.underlying49 (z := .agg #[.slice none 0 0]) (by kernel_rfl) rfl (by omega)
/-- An object's fields as an item. -/
def obI (o : Ob) : Item := rowI 32 2 o.A o.n o.c (vals o.fields)
theorem obs_read {W w : World} {items : List Item} {AO : Option Addr} {n c : Nat} {obs : List Ob} (h : Sep No W w items) (hs : ∀ o ∈ obs, obI o ∈ items) (k : Nat) (hk : items[k]? = some (rowI 110 1 AO n c (obs.map Ob.val))) :
    ObsRd w (fun g => W.heap.size ≤ g) AO n obs :=
  ⟨h.rd k hk, fun o ho => by
    obtain ⟨j, hj⟩ := List.mem_iff_getElem?.1 (hs o ho)
    exact h.rd j hj⟩
end Go.Proofs.Ytpbafmdebflbpaa
