/- Sweeping: blocks that join; the plain part. Sweeping: blocks; the reference's Blocks at equals; what Sweep's function does. Sweeping: mark.Sweep. -/
import Derived.Test.YtpbafmdebflbpaaMg2
import Derived.Test.YtpbafmdebflbpaaMg20
import Derived.Test.YtpbafmdebflbpaaMg1
import Derived.Test.YtpbafmdebflbpaaMg14
namespace Go.Proofs.Ytpbafmdebflbpaa

/-! ### Sweeping. -/
def addB (l : List (Nat × Nat)) (a n : Nat) : List (Nat × Nat) :=
  match l.getLast? with
  | some p => if p.1 + p.2 = a then l.dropLast ++ [(p.1, p.2 + n)] else l ++ [(a, n)]
  | none => l ++ [(a, n)]
theorem addB_join {l : List (Nat × Nat)} {a n : Nat} {b m : Nat} (h : b + m = a) : addB (l ++ [(b, m)]) a n = l ++ [(b, m + n)] := by
  unfold addB
  rw [List.getLast?_concat, List.dropLast_concat]
  dsimp only
  rw [if_pos h]
theorem addB_new {l : List (Nat × Nat)} {a n : Nat} (h : ∀ p, l.getLast? = some p → p.1 + p.2 ≠ a) : addB l a n = l ++ [(a, n)] := by
  unfold addB
  split
  · rename_i p hp
    rw [if_neg (h p hp)]
  · rfl
theorem addB_add (l : List (Nat × Nat)) (a n m : Nat) : addB (addB l a n) (a + n) m = addB l a (n + m) := by
  rcases List.eq_nil_or_concat l with rfl | ⟨r, p, rfl⟩
  · rw [addB_new (l := []) (by simp), addB_new (l := []) (by simp), addB_join rfl]
  · obtain ⟨b, k⟩ := p
    rw [List.concat_eq_append]
    by_cases h : b + k = a
    · rw [addB_join h, addB_join h, addB_join (by omega)]
      rw [Nat.add_assoc]
    · have h2 : ∀ p, (r ++ [(b, k)]).getLast? = some p → p.1 + p.2 ≠ a := by
        intro p hp
        rw [List.getLast?_concat] at hp
        injection hp with hp
        subst hp
        exact h
      rw [addB_new h2, addB_new h2, addB_join rfl]
def sweep1 (ws : List Int) (l : List (Nat × Nat)) (p : Nat × Nat) : List (Nat × Nat) := if hMark (ws.getD p.1 0) = true then l else addB l p.1 (1 + p.2)
def sweepL (ws : List Int) (pre : List (Nat × Nat)) : List (Nat × Nat) := pre.foldl (sweep1 ws) []
end Go.Proofs.Ytpbafmdebflbpaa

namespace Go.Proofs.Ytpbafmdebflbpaa
open Go.RowKit

theorem own_addrB {w : World} {b e size n c : Nat} {A : Option Addr} {xs : List Value} (h : w.ownsRow b e size (.slice A n c) n xs) (hn : 0 < n) : ∃ g, A = some ⟨g, 0, none⟩ := by
  rcases h.2 with ⟨hv, _⟩ | ⟨g, cap, cur, hv, _⟩
  · injection hv with _ h1 _; omega
  · injection hv with h1 _ _; exact ⟨g, h1⟩
abbrev Blks := List (Nat × Nat)
def blks (l : Blks) : List Value := l.flatMap fun p => [.int .i64 p.1, .int .i64 p.2]
theorem sBlock : SliceT Try.prog 81 155 2 16 := SliceT.mk_ Try.underlying81 (z := .agg #[.int .i64 0, .int .i64 0]) (by kernel_rfl) rfl (by omega)
theorem blks_length (l : Blks) : (blks l).length = l.length * 2 := by
  unfold blks; induction l with
  | nil => rfl
  | cons a l ih => simp [List.flatMap_cons] at ih ⊢; omega
theorem blks_at (l : Blks) (k : Nat) (h : k < l.length) : (blks l)[k * 2]? = some (.int .i64 l[k].1) ∧ (blks l)[k * 2 + (0 + 1)]? = some (.int .i64 l[k].2) := by
  unfold blks
  induction l generalizing k with
  | nil => simp at h
  | cons a l ih =>
    cases k with
    | zero => exact ⟨rfl, rfl⟩
    | succ k =>
      have h' : k < l.length := by simpa using h
      have := ih k h'
      simp only [List.flatMap_cons]
      rw [show (k + 1) * 2 = k * 2 + 2 from by omega]
      simpa [Nat.add_right_comm _ 2] using this
theorem blks_snoc (l : Blks) (p : Nat × Nat) : blks (l ++ [p]) = blks l ++ [.int .i64 p.1, .int .i64 p.2] := by simp [blks]
theorem blks_last (l : Blks) (a n m : Nat) : (blks (l ++ [(a, n)])).set (l.length * 2 + 1) (.int .i64 m) = blks (l ++ [(a, m)]) := by
  rw [blks_snoc, blks_snoc, List.set_append_right _ _ (by rw [blks_length]; omega), blks_length, show l.length * 2 + 1 - l.length * 2 = 1 from by omega]
  rfl

set_option maxHeartbeats 800000 in
theorem blocks_same (w : World) (D D' : Nat → Prop) (A A' : Option Addr) (n c c' : Nat) (xs : Blks) (hn : n ≤ 9223372036854775807)
    (h : Rd w D 2 A n (blks xs)) (h' : Rd w D' 2 A' n (blks xs)) :
    Calls Try.prog 48 #[.slice A n c, .slice A' n c'] w fun e w' => e = .returned (.bool true) ∧ Below w.heap.size w w' := by
  have HL := hide (show xs.length = n by have := h.1; rw [blks_length] at this; omega)
  go_enter Try.func48, Try.ntmps48
  go_wp2_with fail
  go_loopw [5] (fun i wr => ∃ k : Nat, k ≤ n ∧ i = .int .i64 k ∧ Below w.heap.size w wr) (fun i _ => n - (intOf i).toNat)
  case atStart => exact ⟨0, by omega, rfl, Below.refl _ _⟩
  case round =>
    obtain ⟨k, hk, rfl, hB⟩ := hrel
    by_cases hlt : k < n
    · have hkl : k < xs.length := by rw [HL.out]; exact hlt
      obtain ⟨v1, v2⟩ := blks_at xs k hkl
      obtain ⟨ad, hA, _, had, hc, hd⟩ := (h.below hB).atN hlt
      obtain ⟨ad', hA', _, had', hc', hd'⟩ := (h'.below hB).atN hlt
      have e0 := hc _ v1
      have e1 := hc' _ v1
      have d0 := hd 0 _ v2
      have d1 := hd' 0 _ v2
      obtain ⟨⟨b, x⟩, hx⟩ : ∃ x, xs[k] = x := ⟨_, rfl⟩
      rw [hx] at e0 e1 d0 d1
      subst hA hA'
      clear hc hc' hd hd' hx v1 v2
      go_wp2_with fail
      go_quiet (fail)
      go_wp2_with fail
      go_roundw
      case rel => exact ⟨k + 1, by omega, by go_num, below_drewN hB _⟩
      case measure => simp [intOf]; omega
    · go_wp2_with fail
      go_ret
      exact ⟨rfl, hB⟩

def SwI (bl : Nat) (A : Option Addr) (n c : Nat) (l : Blks) : List Item := [rowI 155 2 A n c (blks l), blkI bl 81 #[.slice A n c]]
def sweepT (l : Blks) (mk : Bool) (a n : Nat) : Blks := if mk = true then l else addB l a n

set_option maxRecDepth 100000 in
set_option maxHeartbeats 8000000 in
theorem sweep1_any (w : World) (bl : Nat) (A : Option Addr) (n c : Nat) (l : Blks) (at_ len : Nat) (mk : Bool) (age : Int) (hs : (allI (SwI bl A n c l)).P w) (hl : n = l.length) (hn : n ≤ 1000) (_hat : at_ ≤ 256) (hlen : len ≤ 4) (hb : ∀ p ∈ l, p.1 + p.2 ≤ 1000) :
    Calls Try.prog 90 #[.int .i64 at_, .agg #[.int .i64 len, .bool mk, .int .i64 age], .pointer (some ⟨bl, 0, none⟩)] w fun e w' => ∃ A' n' c', e = .returned (.bool true) ∧ n' = (sweepT l mk at_ (1 + len)).length ∧
      Sep (allI (SwI bl A n c l)).fp w w' [allI (SwI bl A' n' c' (sweepT l mk at_ (1 + len)))] := by
  obtain ⟨F, hF⟩ : ∃ F, (allI (SwI bl A n c l)).fp = F := ⟨_, rfl⟩
  have hS := (Sep.start hs).flat
  rw [hF] at hS ⊢
  obtain ⟨m1, m2, m3, m4⟩ := hS.rules 1 (g := bl) (t := 81) rfl
  have m5 : w.cell? ⟨bl, 0, none⟩ = some (.slice A n c) := by rw [m1]; rfl
  have HS := hide hS
  clear hF hs m1 m4 hS
  cases mk with
  | true =>
    rw [show sweepT l true at_ (1 + len) = l from rfl]
    have HL := hide hl
    clear hl
    go_enter Try.func90, Try.ntmps90
    go_wp2_with fail
    go_ret
    first | exact ⟨A, n, c, rfl, HL.out, (HS.out.alloc _).fold⟩ | exact ⟨rfl, A, n, c, HL.out, (HS.out.alloc _).fold⟩
  | false =>
    rw [show sweepT l false at_ (1 + len) = addB l at_ (1 + len) from rfl]
    have hS0 := HS.out.alloc (.cells #[.int .i64 len, .bool false, .int .i64 age] 23)
    obtain ⟨q, hq⟩ : ∃ q, 1 + len = q := ⟨_, rfl⟩
    have W1 : IntKind.i64.wrap (1 + (len : Int)) = (q : Int) := by simp only [IntKind.wrap_i64]; omega
    rw [hq]
    rcases List.eq_nil_or_concat l with rfl | ⟨r, p, rfl⟩
    · have hn0 : n = 0 := hl
      subst hn0
      have HA := hide (show addB [] at_ q = [(at_, q)] from addB_new (l := []) (by simp))
      have HS0 := hide hS0
      clear hS0 hl hb
      go_enter Try.func90, Try.ntmps90
      go_wp2_with fail
      go_quiet (fail)
      go_wp2_with (first
        | (at_builtin
           refine wpList_app1 (cs := #[.int .i64 at_, .int .i64 q]) rfl (.tmp 9) (.tmp 15) 81 rfl sBlock (HS0.out.drewN _) 0 (n := 0) rfl rfl rfl (by first | (simp; done) | (rw [World.drewN_heap]; simp)) rfl rfl (by omega) ?_
           intro A4 c4 w4 hS4 hC4
           obtain ⟨z1, z2, z3, z4⟩ := hS4.rules 1 (g := bl) (t := 81) rfl
           (have z5 : w4.cell? ⟨bl, 0, none⟩ = some (.slice A 0 c) := by rw [z1]; rfl)
           clear z1))
      have hS5 := (hS4.set_ 1 (g := bl) (t := 81) rfl 0 (.slice A4 (0 + 1) c4)).fold
      go_ret
      rw [HA.out]
      exact ⟨rfl, A4, c4, hS5⟩
    · obtain ⟨a, b⟩ := p
      rw [List.concat_eq_append] at *
      obtain ⟨k, hk⟩ : ∃ k, r.length = k := ⟨_, rfl⟩
      have hn1 : n = k + 1 := by rw [hl, List.length_append, hk]; rfl
      have hab := hb (a, b) (by simp)
      dsimp only at hab
      have W2 : IntKind.i64.wrap ((n : Int) - 1) = (k : Int) := by simp only [IntKind.wrap_i64]; omega
      have W3 : IntKind.i64.wrap ((a : Int) + (b : Int)) = ((a + b : Nat) : Int) := by simp only [IntKind.wrap_i64]; omega
      have W4 : IntKind.i64.wrap ((b : Int) + (q : Int)) = ((b + q : Nat) : Int) := by simp only [IntKind.wrap_i64]; omega
      have K1 : decide ((0 : Int) < (n : Int)) = true := by simp; omega
      have K1b : decide (0 < n) = true := by simp; omega
      have hkn : k < n := by omega
      have hrow : (w.alloc (.cells #[.int .i64 len, .bool false, .int .i64 age] 23)).ownsRow 0 155 2 (.slice A n c) n (blks (r ++ [(a, b)])) := hS0.get 0 rfl
      obtain ⟨g, hA⟩ := own_addrB hrow (by omega)
      subst hA
      obtain ⟨v1, v2⟩ := blks_at (r ++ [(a, b)]) k (by rw [← hl]; omega)
      have v0 : (r ++ [(a, b)])[k]'(by rw [← hl]; omega) = (a, b) := by subst hk; simp
      rw [v0] at v1 v2
      have e0 := (hrow.cellAt (k * 2) (by omega)).trans v1
      have e1 := (hrow.cellAt (k * 2 + (0 + 1)) (by omega)).trans v2
      have f1 := hrow.frozenAt (k * 2 + (0 + 1))
      by_cases hj : a + b = at_
      · have HA := hide (show addB (r ++ [(a, b)]) at_ q = r ++ [(a, b + q)] from addB_join hj)
        have hS5 := (hS0.store 0 (g := g) rfl (k * 2 + 1) (.int .i64 ((b + q : Nat) : Int)))
        have hk2 : (blks (r ++ [(a, b)])).set (k * 2 + 1) (.int .i64 ((b + q : Nat) : Int)) = blks (r ++ [(a, b + q)]) := by rw [← hk]; exact blks_last r a b (b + q)
        rw [hk2] at hS5
        have HS5 := hide hS5
        have K2 : (((a + b : Nat) : Int) == (at_ : Int)) = true := by simp; omega
        have K2b : (a + b == at_) = true := by simp; omega
        have HL := hide hl
        clear hS0 hl hb hrow v1 v2 v0 hS5 hk2 hj hk hn1
        go_enter Try.func90, Try.ntmps90
        go_wp2_with fail
        go_quiet (fail)
        go_wp2_with fail
        go_region_law (fail)
        all_goals
          go_wp2_with fail
          go_ret
          rw [HA.out]
          have e9 : (r ++ [(a, b + q)]).length = n := by rw [HL.out]; simp
          rw [e9]
          first
            | exact ⟨rfl, some ⟨g, 0, none⟩, c, (HS5.out.drewN _).fold⟩
            | exact ⟨rfl, some ⟨g, 0, none⟩, n, c, rfl, (HS5.out.drewN _).fold⟩
            | exact ⟨some ⟨g, 0, none⟩, n, c, rfl, rfl, (HS5.out.drewN _).fold⟩
            | trace_state
      · have HA := hide (show addB (r ++ [(a, b)]) at_ q = (r ++ [(a, b)]) ++ [(at_, q)] from addB_new (fun p hp => by
          rw [List.getLast?_concat] at hp
          injection hp with hp
          subst hp
          exact hj))
        have HS0 := hide hS0
        have HL := hide hl
        have K2 : (((a + b : Nat) : Int) == (at_ : Int)) = false := by rw [beq_eq_false_iff_ne]; omega
        have K2b : (a + b == at_) = false := by rw [beq_eq_false_iff_ne]; omega
        clear hS0 hb hrow v1 v2 v0 hj hk hl hn1
        go_enter Try.func90, Try.ntmps90
        go_wp2_with fail
        go_quiet (fail)
        go_wp2_with (first
          | (at_builtin
             refine wpList_app1 (cs := #[.int .i64 at_, .int .i64 q]) rfl (.tmp 9) (.tmp 15) 81 rfl sBlock (HS0.out.drewN _) 0 (n := n) rfl rfl rfl (by first | (simp; done) | (rw [World.drewN_heap]; simp)) rfl rfl (by omega) ?_
             intro A4 c4 w4 hS4 hC4
             obtain ⟨z1, z2, z3, z4⟩ := hS4.rules 1 (g := bl) (t := 81) rfl
             (have z5 : w4.cell? ⟨bl, 0, none⟩ = some (.slice (some ⟨g, 0, none⟩) n c) := by rw [z1]; rfl)
             clear z1))
        have hS5 := (hS4.set_ 1 (g := bl) (t := 81) rfl 0 (.slice A4 (n + 1) c4)).fold
        go_ret
        rw [HA.out, List.length_append, ← HL.out]
        have e9 : blks ((r ++ [(a, b)]) ++ [(at_, q)]) = blks (r ++ [(a, b)]) ++ [.int .i64 (at_ : Int), .int .i64 (q : Int)] := blks_snoc _ _
        first
          | exact ⟨rfl, A4, c4, by unfold SwI; rw [e9]; exact hS5⟩
          | exact ⟨A4, n + 1, c4, rfl, rfl, by unfold SwI; rw [e9]; exact hS5⟩
          | exact ⟨rfl, A4, n + 1, c4, rfl, by unfold SwI; rw [e9]; exact hS5⟩
end Go.Proofs.Ytpbafmdebflbpaa

namespace Go.Proofs.Ytpbafmdebflbpaa
open Go.RowKit

theorem addB_mem {M : Nat} {l : Blks} {a n : Nat} (h : ∀ p ∈ l, p.1 + p.2 ≤ M) (hn : a + n ≤ M) : ∀ p ∈ addB l a n, p.1 + p.2 ≤ M := by
  rcases List.eq_nil_or_concat l with rfl | ⟨r, ⟨b, m⟩, rfl⟩
  · rw [addB_new (l := []) (by simp)]
    intro p hp
    simp at hp; subst hp; exact hn
  · rw [List.concat_eq_append] at h ⊢
    by_cases e : b + m = a
    · rw [addB_join e]
      intro p hp
      rcases List.mem_append.1 hp with h1 | h1
      · exact h p (by simp [h1])
      · simp at h1; subst h1; dsimp only; omega
    · rw [addB_new (fun p hp => by
        rw [List.getLast?_concat] at hp
        injection hp with hp
        subst hp
        exact e)]
      intro p hp
      rcases List.mem_append.1 hp with h1 | h1
      · exact h p h1
      · simp at h1; subst h1; exact hn
theorem addB_length (l : Blks) (a n : Nat) : (addB l a n).length ≤ l.length + 1 := by
  rcases List.eq_nil_or_concat l with rfl | ⟨r, ⟨b, m⟩, rfl⟩
  · rw [addB_new (l := []) (by simp)]; simp
  · rw [List.concat_eq_append]
    by_cases e : b + m = a
    · rw [addB_join e]; simp
    · rw [addB_new (fun p hp => by
        rw [List.getLast?_concat] at hp
        injection hp with hp
        subst hp
        exact e)]
      simp
theorem sweepL_snoc (ws : List Int) (l : List (Nat × Nat)) (p : Nat × Nat) : sweepL ws (l ++ [p]) = sweep1 ws (sweepL ws l) p := by unfold sweepL; rw [List.foldl_append]; rfl
theorem sweepL_mem {nW : Nat} {ws : List Int} (hok : ArnOk nW ws) (k : Nat) (hk : k ≤ (parse nW ws 0).1.length) : (∀ p ∈ sweepL ws ((parse nW ws 0).1.take k), p.1 + p.2 ≤ 1000) ∧ (sweepL ws ((parse nW ws 0).1.take k)).length ≤ k := by
  induction k with
  | zero => simp [sweepL]
  | succ k ih =>
    obtain ⟨h1, h2⟩ := ih (by omega)
    obtain ⟨_, _, _, h4, _⟩ := hok.obj (i := k) (by omega)
    have hmx := hok.max
    rw [List.take_succ_eq_append_getElem (by omega), sweepL_snoc]
    have e1 : (parse nW ws 0).1[k].1 = plcN (parse nW ws 0).1 k := plc_get (by omega)
    have e2 : (parse nW ws 0).1[k].2 = lenN (parse nW ws 0).1 k := by unfold lenN; rw [List.getD_eq_getElem?_getD, List.getElem?_eq_getElem (by omega)]; rfl
    unfold sweep1
    split
    · exact ⟨h1, by omega⟩
    · refine ⟨addB_mem h1 (by rw [e1, e2]; omega), ?_⟩
      have := addB_length (sweepL ws ((parse nW ws 0).1.take k)) (parse nW ws 0).1[k].1 (1 + (parse nW ws 0).1[k].2)
      omega
theorem arn_of {w : World} {A : Option Addr} {nW c : Nat} {ws : List Int} (hW : WsIn w A nW c ws) (h1 : nW ≤ 256) (h3 : (parse nW ws 0).2 = true) : ArnOk nW ws := ⟨hW.len, h1, fun x hx => (hW.wf x hx).1, h3⟩

set_option maxRecDepth 100000 in
set_option maxHeartbeats 4000000 in
theorem walkSw_any (w : World) (bl : Nat) (Aw : Option Addr) (nw cw : Nat) (ws : List Int) (hok : ArnOk nw ws) (hs : (allI (SwI bl none 0 0 [])).P w) (hw : Rd w (fun g => ¬ (allI (SwI bl none 0 0 [])).fp g) 1 Aw nw (u64s ws)) (hwf : ∀ x ∈ ws, 0 ≤ x ∧ x ≤ 18446744073709551615) :
    Calls Try.prog 74 #[.slice Aw nw cw, .func (.func 90) #[] #[.pointer (some ⟨bl, 0, none⟩)]] w fun e w' => ∃ A n c, e = .returned (.bool true) ∧
      Sep (allI (SwI bl none 0 0 [])).fp w w' [allI (SwI bl A n c (sweepL ws (parse nw ws 0).1))] := by
  refine (walkV_any 90 (enter_of Try.func90 (by kernel_rfl) (by kernel_rfl)) #[.pointer (some ⟨bl, 0, none⟩)] w Aw nw cw ws hok (allI (SwI bl none 0 0 [])) (fun k it => ∃ A n c, it = allI (SwI bl A n c (sweepL ws ((parse nw ws 0).1.take k))) ∧ n = (sweepL ws ((parse nw ws 0).1.take k)).length) ⟨none, 0, 0, rfl, rfl⟩ hs hw hwf ?_).mono ?_
  · rintro k it w' hk ⟨A, n, c, rfl, hn⟩ hP _ _
    obtain ⟨h1, h2⟩ := sweepL_mem hok k (by omega)
    have hlen : (parse nw ws 0).1.length ≤ 256 := by
      have := hok.obj (i := k) hk
      have h5 : (parse nw ws 0).1.length ≤ ((parse nw ws 0).1.map fun p => 1 + p.2).sum := by
        generalize (parse nw ws 0).1 = m
        induction m with
        | nil => simp
        | cons a m ih => simp only [List.map_cons, List.sum_cons, List.length_cons]; omega
      have h6 := parse_sum nw ws 0 (by omega) hok.pos
      have := hok.len
      have := hok.max
      omega
    obtain ⟨o1, o2, o3, o4, o5, o6, o7⟩ := hok.obj (i := k) hk
    have hmx := hok.max
    have e1 : (parse nw ws 0).1[k].1 = plcN (parse nw ws 0).1 k := plc_get hk
    have e2 : (parse nw ws 0).1[k].2 = lenN (parse nw ws 0).1 k := by unfold lenN; rw [List.getD_eq_getElem?_getD, List.getElem?_eq_getElem hk]; rfl
    have key := sweep1_any w' bl A n c (sweepL ws ((parse nw ws 0).1.take k)) (plcN (parse nw ws 0).1 k) (lenN (parse nw ws 0).1 k) (hMark (ws.getD (plcN (parse nw ws 0).1 k) 0)) (hAge (ws.getD (plcN (parse nw ws 0).1 k) 0)) hP hn (by omega) (by omega) o5 h1
    refine key.mono ?_
    rintro e w'' ⟨A', n', c', rfl, hn', hSep⟩
    have e3 : sweepT (sweepL ws ((parse nw ws 0).1.take k)) (hMark (ws.getD (plcN (parse nw ws 0).1 k) 0)) (plcN (parse nw ws 0).1 k) (1 + lenN (parse nw ws 0).1 k) = sweepL ws ((parse nw ws 0).1.take (k + 1)) := by
      rw [List.take_succ_eq_append_getElem hk, sweepL_snoc]
      unfold sweep1 sweepT
      rw [e1, e2]
    rw [e3] at hn' hSep
    exact ⟨rfl, _, ⟨A', n', c', rfl, hn'⟩, hSep⟩
  · rintro e w' ⟨rfl, it, ⟨A, n, c, rfl, hn⟩, hS⟩
    rw [List.take_length] at hS
    exact ⟨A, n, c, rfl, hS⟩

set_option maxRecDepth 100000 in
set_option maxHeartbeats 4000000 in
theorem sweep_ok (w : World) (AW AR : Option Addr) (nW cW nR cR : Nat) (ws rs : List Int) (hW : WsIn w AW nW cW ws) (hR : WsIn w AR nR cR rs) (hz : acheck nW nR ws rs = 0) :
    Calls Try.prog 47 #[.agg #[.slice AW nW cW, .slice AR nR cR]] w fun e w' => ∃ A n c, e = .returned (.tuple #[.slice A n c, .int .i64 0]) ∧ Sep No w w' [rowI 155 2 A n c (blks (sweepL ws (parse nW ws 0).1))] := by
  obtain ⟨h1, h2, h3, h4⟩ := acheck_zero hz
  have hok := arn_of hW h1 h3
  have hS0 := (Sep.nil No w).blkAt 55 #[.slice AW nW cW, .slice AR nR cR] rfl
  obtain ⟨a1, a2, a3, a4⟩ := hS0.rules 0 (g := w.heap.size) (t := 55) rfl
  have HS0 := hide hS0
  have C1 := hide (arenaCheck_any _ AW AR nW cW nR cR ws rs (hW.below hS0.below_) (hR.below hS0.below_))
  rw [hz] at C1
  have C2 := hide (fun w' bl hs hw => walkSw_any w' bl AW nW cW ws hok hs hw hW.wf)
  have HW := hide hW
  clear hS0 hz h3 h4 hok hR hW
  go_enter Try.func47, Try.ntmps47
  go_wp2_with fail
  refine C1.out.mono ?_
  rintro e w1 ⟨rfl, hb1⟩
  have hS1 := ((HS0.out.below hb1).blkAt 81 #[.slice none 0 0] (g := w1.heap.size) rfl).nilRow0 155 2
  have hS2 : Sep No w _ (allI (SwI w1.heap.size none 0 0 []) :: [blkI w.heap.size 55 #[.slice AW nW cW, .slice AR nR cR]]) := Sep.join (hS1.perm (List.Perm.cons _ (List.Perm.swap _ _ _)))
  have C := hide (C2.out _ w1.heap.size (hS2.get 0 rfl) (((HW.out.rd.more (D' := fun g => g < w.heap.size) (fun k hk _ => hk)).below hS2.below_).more (fun g _ hg hf => by
      rcases hS2.lo 0 rfl g hf with h | h
      · exact h
      · omega)))
  clear a1 a2 a3 a4
  obtain ⟨a1, a2, a3, a4⟩ := hS2.rules 1 (g := w.heap.size) (t := 55) rfl
  have a5 := a1 0
  have HS2 := hide hS2
  clear hS1 hS2 hb1 HS0 C1 C2 a1 a4
  go_wp2_with fail
  refine C.out.mono ?_
  rintro e w3 ⟨A, n, c, rfl, hP⟩
  have hS3 := (HS2.out.call 0 rfl hP).split
  obtain ⟨b1, b2, b3, b4⟩ := hS3.rules 1 (g := w1.heap.size) (t := 81) rfl
  have b5 := b1 0
  have HS3 := hide hS3
  clear b1 b4 hS3 hP HS2 C a2 a3 a5
  go_wp2_with fail
  go_ret2
  first
    | exact ⟨A, n, c, rfl, HS3.out.sub (by simp [SwI])⟩
    | exact ⟨_, _, _, ⟨rfl, rfl, rfl⟩, HS3.out.sub (by simp [SwI])⟩

set_option maxRecDepth 100000 in
set_option maxHeartbeats 4000000 in
theorem sweep_bad (w : World) (AW AR : Option Addr) (nW cW nR cR : Nat) (ws rs : List Int) (hW : WsIn w AW nW cW ws) (hR : WsIn w AR nR cR rs) (hz : acheck nW nR ws rs ≠ 0) :
    Calls Try.prog 47 #[.agg #[.slice AW nW cW, .slice AR nR cR]] w fun e w' => e = .returned (.tuple #[.slice none 0 0, .int .i64 (acheck nW nR ws rs)]) ∧ Below w.heap.size w w' := by
  have hS0 := (Sep.nil No w).blkAt 55 #[.slice AW nW cW, .slice AR nR cR] rfl
  obtain ⟨a1, a2, a3, a4⟩ := hS0.rules 0 (g := w.heap.size) (t := 55) rfl
  have HS0 := hide hS0
  have C1 := hide (arenaCheck_any _ AW AR nW cW nR cR ws rs (hW.below hS0.below_) (hR.below hS0.below_))
  obtain ⟨x, hx⟩ : ∃ x, acheck nW nR ws rs = x := ⟨_, rfl⟩
  rw [hx] at C1 hz ⊢
  have y1 : (x != 0) = true := by rw [bne_iff_ne]; exact hz
  clear hS0 hz hx
  go_enter Try.func47, Try.ntmps47
  go_wp2_with fail
  refine C1.out.mono ?_
  rintro e w1 ⟨rfl, hb1⟩
  have HB := hide (HS0.out.below hb1).below_
  clear a1 a2 a3 a4 hb1 HS0 C1
  go_wp2_with fail
  go_ret2
  exact ⟨rfl, HB.out⟩
end Go.Proofs.Ytpbafmdebflbpaa
