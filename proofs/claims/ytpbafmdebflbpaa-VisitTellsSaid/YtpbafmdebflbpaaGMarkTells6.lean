/- arena: the program's Check. arena: the reference's Starts and Fields. arena: the reference's Fields and ArenaCheck. -/
import Derived.Test.YtpbafmdebflbpaaGMarkTells5
set_option linter.unusedSimpArgs false
set_option linter.unusedVariables false
namespace Go.Proofs.Ytpbafmdebflbpaa
open Go.RowKit Go.Maps

theorem row0 {F : Nat → Prop} {W w : World} {items : List Item} (h : Sep F W w items) (k : Nat) {g t : Nat} (hk : items[k]? = some (blkI g t #[])) : Sep F W w (items.set k (rowI t 1 (some ⟨g, 0, none⟩) 0 0 [])) :=
  h.step k hk (Chg.refl _ w) _ ⟨by simp, .inr ⟨g, 0, #[], rfl, Nat.zero_le _, h.get k hk, Nat.le_refl _, by simp only [maxLen]; omega, rfl, by simp⟩⟩ (fun g' hg => .inl (by
    have : g = g' := by simpa [rowI, Value.ownBlock] using hg
    exact this.symm))

theorem eqlNil (w : World) : (binOp .eql 53 (.slice none 0 0) (.slice none 0 0)).run Try.prog w = .ok (.bool true) w := by kernel_rfl
theorem eqlSome (w : World) (ad : Addr) (n c : Nat) : (binOp .eql 53 (.slice (some ad) n c) (.slice none 0 0)).run Try.prog w = .ok (.bool false) w := by
  have h := run_equal_slice_nil (P := Try.prog) w 53 24 (some ad) n c Try.underlying53
  unfold binOp
  simp [h, go_sem]
set_option maxRecDepth 100000 in
set_option maxHeartbeats 1600000 in
theorem clone_any (w : World) (A : Option Addr) (n c : Nat) (xs : List Int) (hA : A = none → n = 0 ∧ c = 0) (hn : n ≤ 1000) (hR : Rd w (fun _ => True) 1 A n (u64s xs)) :
    Calls Try.prog 73 #[.slice A n c] w fun e w' => ∃ A' c', e = .returned (.slice A' n c') ∧ Sep No w w' [rowI 24 1 A' n c' (u64s xs)] := by
  cases A with
  | none =>
    obtain ⟨rfl, rfl⟩ := hA rfl
    have hx : u64s xs = [] := List.eq_nil_of_length_eq_zero (by have := hR.1; simpa using this)
    rw [hx]
    have HS := hide ((Sep.nil No w).nilRow 24 1)
    clear hx hR
    have hnil := eqlNil
    go_enter Try.func73, Try.ntmps73
    go_wp2_with fail
    go_ret
    exact ⟨none, 0, rfl, HS.out⟩
  | some ad =>
    have hS := row0 ((Sep.nil No w).blkAt 24 #[] rfl) 0 rfl
    have hR1 := hR.below hS.below_
    have hnil := eqlSome
    go_enter Try.func73, Try.ntmps73
    go_wp2_with (first
      | (at_builtin
         refine wpList_app rfl (.tmp 5) (.tmp 6) 53 rfl sWord hS 0 (n := 0) rfl rfl rfl hR1 (u64s_one _) (by omega) ?_
         intro A4 c4 w4 hS4 hC4))
    go_ret
    rw [Nat.zero_add] at hS4
    exact ⟨A4, c4, by first | rfl | simp, hS4⟩

def badWord (l : List (Nat × Nat)) (x : Int) : Bool := unE x != 0 || (unR x && !(l.any fun p => (p.1 : Int) == unA x))
def acheck (nW nR : Nat) (ws rs : List Int) : Int :=
  if 256 < nW ∨ 8 < nR then 1 else if (parse nW ws 0).2 = false then 4 else if (rs ++ fieldsOf ws (parse nW ws 0).1).any (badWord (parse nW ws 0).1) = true then 2 else 0

theorem has_mapD (l : List (Nat × Nat)) (y : Int) (hw : (Lit.int .i64 y).wf = true) : Maps.has (mapD l) (.int .i64 y) = l.any fun p => (p.1 : Int) == y := by
  have key : ∀ (l : List (Nat × Nat)) (D : DataW Unit), IsMap D → Maps.has (l.foldl (fun D p => D.put (.int .i64 p.1) (.lit (.int .i64 p.2))) D) (.int .i64 y) = (Maps.has D (.int .i64 y) || l.any fun p => (p.1 : Int) == y) := by
    intro l
    induction l with
    | nil => intro D _; simp
    | cons a l ih =>
      intro D hD
      have hD' : IsMap (D.put (.int .i64 a.1) (.lit (.int .i64 a.2))) := by obtain ⟨es, rfl⟩ := hD; exact ⟨_, rfl⟩
      rw [List.foldl_cons, ih _ hD', List.any_cons]
      by_cases h : (a.1 : Int) = y
      · subst h
        rw [has_put_same (k := Lit.int .i64 (a.1 : Int)) hD trivial]
        simp
      · rw [has_put_other (by intro e; injection e with _ e; exact h e.symm)]
        have : ((a.1 : Int) == y) = false := by simp [h]
        rw [this, Bool.false_or]
  have := key l (.map []) ⟨[], rfl⟩
  unfold mapD
  rw [this]
  rfl
theorem unA_wf (x : Int) (h1 : 0 ≤ x) (h2 : x ≤ 18446744073709551615) : (Lit.int .i64 (unA x)).wf = true := by
  have : -9223372036854775808 ≤ unA x ∧ unA x ≤ 9223372036854775807 := by
    unfold unA unN
    repeat' split
    all_goals omega
  exact WalkArith.wf_i64 (by omega)
theorem zeroInt (w : World) : (zeroValue 3).run Try.prog w = .ok (.int .i64 0) w := Try.zeroValue3 w

theorem perm_k5 {α : Type} (a b c d e : α) : [a, b, c, d, e].Perm [a, d, c, e, b] := by
  classical
  rw [List.perm_iff_count]
  intro x
  simp only [List.count_cons, List.count_nil]
  omega

set_option maxRecDepth 100000 in
set_option maxHeartbeats 16000000 in
theorem acheck_in (w : World) (AW AR : Option Addr) (nW cW nR cR : Nat) (ws rs : List Int) (hcW : nW ≤ cW) (hcW2 : cW ≤ 9223372036854775807) (hA : AR = none → nR = 0 ∧ cR = 0) (hW : Rd w (fun _ => True) 1 AW nW (u64s ws)) (hR : Rd w (fun _ => True) 1 AR nR (u64s rs)) (h1 : nW ≤ 256) (h2 : nR ≤ 8)
    (hws : ∀ x ∈ ws, 0 ≤ x ∧ x ≤ 18446744073709551615) (hrs : ∀ x ∈ rs, 0 ≤ x ∧ x ≤ 18446744073709551615) :
    Calls Try.prog 36 #[.agg #[.slice AW nW cW, .slice AR nR cR]] w fun e w' => e = .returned (.int .i64 (acheck nW nR ws rs)) ∧ Below w.heap.size w w' := by
  have hmm := @run_makeMap Try.prog
  have hS0 := (Sep.nil No w).blkAt 55 #[.slice AW nW cW, .slice AR nR cR] rfl
  have hown := World.ownsMap_made (H := Unit) (w.alloc (.cells #[.slice AW nW cW, .slice AR nR cR] 55)) Try.prog 2 (plainElem Try.prog 3)
  have hS1 := hS0.consNew ((Below.refl _ _).alloc (Nat.le_refl _) (.map #[] 0)) (mapI (w.alloc (.cells #[.slice AW nW cW, .slice AR nR cR] 55)).heap.size 0 (.map [])) hown (fun g hg => by rw [show g = _ from hg]; exact Nat.le_refl _)
  rw [World.size_alloc] at hS1
  have hS2 := hS1.blkAt 135 #[.map (some (w.heap.size + 1))] (g := w.heap.size + 2) (by simp)
  obtain ⟨a1, a2, a3, a4⟩ := hS2.rules 1 (g := w.heap.size) (t := 55) rfl
  have HS2 := hide hS2
  have C1 := hide (clone_any _ AR nR cR rs hA (by omega) (hR.below hS2.below_))
  clear hS0 hown hS1 hS2
  go_enter Try.func36, Try.ntmps36
  go_wp2_with fail
  refine C1.out.mono ?_
  rintro e w1 ⟨Af, cf, rfl, hP⟩
  have hS3 := HS2.out.snocNew hP.below_ _ (hP.get 0 rfl) (fun g hg => (hP.lo 0 rfl g hg).resolve_left (fun h => h))
  obtain ⟨a1', a2', a3', a4'⟩ := hS3.rules 1 (g := w.heap.size) (t := 55) rfl
  have a5 : w1.cell? ⟨w.heap.size, 0, none⟩ = some (.slice AW nW cW) := by rw [a1']; rfl
  have hS4 := (hS3.blkAt 53 #[.slice Af nR cf] rfl).perm (perm_k5 _ _ _ _ _)
  have hS5 : Sep No w _ [allI (CkItems (w.heap.size + 1) (w.heap.size + 2) w1.heap.size w.heap.size 0 (mapD []) Af nR cf rs AW nW cW AR nR cR)] := hS4.fold
  have C2 := hide (walkCk_any _ (w.heap.size + 1) (w.heap.size + 2) w1.heap.size w.heap.size Af nR cf rs AW nW cW AR nR cR ws (hS5.get 0 rfl)
    (((hW.more (D' := fun g => g < w.heap.size) (fun k hk _ => hk)).below hS5.below_).more (fun g _ hg hf => by
      rcases hS5.lo 0 rfl g hf with h | h
      · exact h
      · omega)) hcW hcW2 h1 (by omega) hws)
  have HS5 := hide hS5
  clear a1 a2 a3 a4 a1' HS2 C1 hP hS3 hS4 hS5 hmm
  go_wp2_with fail
  refine C2.out.mono ?_
  rintro e w2 ⟨pre, Af2, nf2, cf2, rfl, hpre, hnf2, hQ⟩
  have hS6 := HS5.out.call 0 rfl hQ
  have HPRE := hide hpre
  have HS6 := hide (Sep.flat hS6)
  have hacc : ¬ (256 < nW ∨ 8 < nR) := by omega
  clear HS5 C2 hQ hpre a2' a3' a4' a5
  cases hok : (parse nW ws 0).2 with
  | false =>
    have HR := hide (show acheck nW nR ws rs = 4 from (if_neg hacc).trans (if_pos hok))
    have hB := HS6.out.below_
    clear hok hacc
    go_wp2_with fail
    go_ret
    exact ⟨by rw [HR.out] <;> rfl, hB⟩
  | true =>
    have HR := hide (show acheck nW nR ws rs = (if (rs ++ fieldsOf ws pre).any (badWord pre) = true then 2 else 0) from by
      rw [HPRE.out hok]; exact (if_neg hacc).trans (if_neg (by rw [hok]; simp)))
    obtain ⟨i1, i2, i3, i4⟩ := HS6.out.rules 3 (g := w1.heap.size) (t := 53) rfl
    have i5 : w2.cell? ⟨w1.heap.size, 0, none⟩ = some (.slice Af2 nf2 cf2) := by rw [i1]; rfl
    have hxb : ∀ x ∈ rs ++ fieldsOf ws pre, 0 ≤ x ∧ x ≤ 18446744073709551615 := by
      intro x hx
      rcases List.mem_append.1 hx with h | h
      · exact hrs x h
      · obtain ⟨p, _, hp⟩ := List.mem_flatMap.1 h
        exact hws x (List.mem_of_mem_drop (List.mem_of_mem_take hp))
    have HXB := hide hxb
    have hxl := u64s_row HS6.out 1 rfl
    obtain ⟨xs, hxs⟩ : ∃ xs, rs ++ fieldsOf ws pre = xs := ⟨_, rfl⟩
    rw [hxs] at HS6 HXB HR hxl
    have HXL := hide hxl
    clear hok hacc i1 hxb hxl hxs hws hrs hW hR HPRE
    go_wp2_with fail
    clear i2 i3 i4 i5
    go_loopw [34] (fun i wr => ∃ k : Nat, k ≤ nf2 ∧ i = .int .i64 k ∧ Hid ((xs.take k).any (badWord pre) = false) ∧ Sep No w wr (CkItems (w.heap.size + 1) (w.heap.size + 2) w1.heap.size w.heap.size pre.length (mapD pre) Af2 nf2 cf2 xs AW nW cW AR nR cR)) (fun i _ => nf2 - (intOf i).toNat)
    case atStart => exact ⟨0, by omega, rfl, by simp [Hid], HS6.out⟩
    case round =>
      clear HS6
      obtain ⟨k, hk, rfl, HP, hS⟩ := hrel
      by_cases hlt : k < nf2
      · have hkl : k < xs.length := by rw [HXL.out]; exact hlt
        obtain ⟨ad, hA', _, had, hc⟩ := (hS.rd_ 1 rfl).at_ hlt
        have e0 := hc (.int .u64 xs[k]) (by simp [u64s, List.getElem?_eq_getElem hkl])
        have hb := HXB.out _ (List.getElem_mem hkl)
        have HT := hide (List.take_succ_eq_append_getElem hkl)
        have HM := hide (List.getElem_mem hkl)
        obtain ⟨x, hx⟩ : ∃ x, xs[k] = x := ⟨_, rfl⟩
        rw [hx] at e0 hb HT HM
        obtain ⟨b1, b2⟩ := hb
        have C := fun w' => unpackP_any w' x b1 b2
        have hwf := unA_wf x b1 b2
        rw [hA']
        have HA := hide hA'
        clear hc hx hA'
        by_cases hE : unE x = 0
        · rw [hE] at C
          have hnext : badWord pre x = false → Hid ((xs.take (k + 1)).any (badWord pre) = false) := fun h => by
            show _ = _
            rw [HT.out, List.any_append, HP.out]; simp [h]
          cases hr : unR x with
          | false =>
            rw [hr] at C
            have HN := hnext (by unfold badWord; rw [hE, hr]; rfl)
            have C1 := hide C
            clear C hnext hE hr
            go_wp2_with fail
            refine (C1.out _).mono ?_
            rintro e w3 ⟨rfl, hb3⟩
            have hS2 := (hS.below hb3).alloc (.cells #[.bool false, .int .i64 (unA x)] 32)
            have hown : (w3.alloc (.cells #[.bool false, .int .i64 (unA x)] 32)).ownsMap Try.prog 2 (plainElem Try.prog 3) (w.heap.size + 1) pre.length (mapD pre) := hS2.get 0 rfl
            obtain ⟨m1, m2, m3, m4⟩ := (hS.below hb3).rules 2 (g := w.heap.size + 2) (t := 135) rfl
            have m5 : w3.cell? ⟨w.heap.size + 2, 0, none⟩ = some (.map (some (w.heap.size + 1))) := by rw [m1]; rfl
            clear m1 hb3
            go_wp2_with (first
              | (at_lookup
                 refine wpList_lookup_own_ok_int _ rfl _ _ 135 rfl 2 3 .i64 (int_keyed Try.underlying2) Try.underlying135 Try.underlying3 (zeroInt _) (w.heap.size + 1) pre.length _ rfl hown _ _ rfl (keyOf_int_mk Try.underlying2 hwf) ?_
                 intro c hat hwc))
            go_roundw
            case rel => exact ⟨k + 1, by omega, by go_num, HN, by rw [← HA.out]; exact hS2⟩
            case measure => simp [intOf]; omega
          | true =>
            rw [hr] at C
            cases ht : pre.any (fun p => (p.1 : Int) == unA x) with
            | true =>
              have HN := hnext (by unfold badWord; rw [hE, hr, ht]; rfl)
              have hth : Maps.has (mapD pre) (.int .i64 (unA x)) = true := by rw [has_mapD pre _ hwf]; exact ht
              have C1 := hide C
              clear C hnext hE hr ht
              go_wp2_with fail
              refine (C1.out _).mono ?_
              rintro e w3 ⟨rfl, hb3⟩
              have hS2 := (hS.below hb3).alloc (.cells #[.bool true, .int .i64 (unA x)] 32)
              have hown : (w3.alloc (.cells #[.bool true, .int .i64 (unA x)] 32)).ownsMap Try.prog 2 (plainElem Try.prog 3) (w.heap.size + 1) pre.length (mapD pre) := hS2.get 0 rfl
              obtain ⟨m1, m2, m3, m4⟩ := (hS.below hb3).rules 2 (g := w.heap.size + 2) (t := 135) rfl
              have m5 : w3.cell? ⟨w.heap.size + 2, 0, none⟩ = some (.map (some (w.heap.size + 1))) := by rw [m1]; rfl
              clear m1 hb3
              go_wp2_with (first
                | (at_lookup
                   refine wpList_lookup_own_ok_int _ rfl _ _ 135 rfl 2 3 .i64 (int_keyed Try.underlying2) Try.underlying135 Try.underlying3 (zeroInt _) (w.heap.size + 1) pre.length _ rfl hown _ _ rfl (keyOf_int_mk Try.underlying2 hwf) ?_
                   intro c hat hwc))
              go_roundw
              case rel => exact ⟨k + 1, by omega, by go_num, HN, by rw [← HA.out]; exact hS2⟩
              case measure => simp [intOf]; omega
            | false =>
              have HN := hide (show (if xs.any (badWord pre) = true then (2 : Int) else 0) = 2 from if_pos (List.any_eq_true.2 ⟨x, HM.out, by unfold badWord; rw [hE, hr, ht]; rfl⟩))
              have hth : Maps.has (mapD pre) (.int .i64 (unA x)) = false := by rw [has_mapD pre _ hwf]; exact ht
              have C1 := hide C
              clear C hnext hE hr ht
              go_wp2_with fail
              refine (C1.out _).mono ?_
              rintro e w3 ⟨rfl, hb3⟩
              have hS2 := (hS.below hb3).alloc (.cells #[.bool true, .int .i64 (unA x)] 32)
              have hown : (w3.alloc (.cells #[.bool true, .int .i64 (unA x)] 32)).ownsMap Try.prog 2 (plainElem Try.prog 3) (w.heap.size + 1) pre.length (mapD pre) := hS2.get 0 rfl
              obtain ⟨m1, m2, m3, m4⟩ := (hS.below hb3).rules 2 (g := w.heap.size + 2) (t := 135) rfl
              have m5 : w3.cell? ⟨w.heap.size + 2, 0, none⟩ = some (.map (some (w.heap.size + 1))) := by rw [m1]; rfl
              clear m1 hb3
              go_wp2_with (first
                | (at_lookup
                   refine wpList_lookup_own_ok_int _ rfl _ _ 135 rfl 2 3 .i64 (int_keyed Try.underlying2) Try.underlying135 Try.underlying3 (zeroInt _) (w.heap.size + 1) pre.length _ rfl hown _ _ rfl (keyOf_int_mk Try.underlying2 hwf) ?_
                   intro c hat hwc))
              go_ret
              exact ⟨by rw [HR.out, HN.out] <;> rfl, hS2.below_⟩
        · have HN := hide (show (if xs.any (badWord pre) = true then (2 : Int) else 0) = 2 from if_pos (List.any_eq_true.2 ⟨x, HM.out, by unfold badWord; simp [hE]⟩))
          have y1 : (unE x != 0) = true := by simp [hE]
          have C1 := hide C
          clear C hE
          go_wp2_with fail
          refine (C1.out _).mono ?_
          rintro e w3 ⟨rfl, hb3⟩
          have hS2 := (hS.below hb3).alloc (.cells #[.bool (unR x), .int .i64 (unA x)] 32)
          go_wp2_with fail
          go_ret
          exact ⟨by rw [HR.out, HN.out] <;> rfl, hS2.below_⟩
      · obtain rfl : k = nf2 := by omega
        have hall : xs.any (badWord pre) = false := by
          have := HP.out
          rw [List.take_of_length_le (by rw [HXL.out]; omega)] at this
          exact this
        have HN := hide (show (if xs.any (badWord pre) = true then (2 : Int) else 0) = 0 from if_neg (by rw [hall]; simp))
        clear hall
        go_wp2_with fail
        go_ret
        exact ⟨by rw [HR.out, HN.out] <;> rfl, hS.below_⟩

set_option maxHeartbeats 1600000 in
theorem acheck_large (w : World) (AW AR : Option Addr) (nW cW nR cR : Nat) (h : 256 < nW ∨ 8 < nR) :
    Calls Try.prog 36 #[.agg #[.slice AW nW cW, .slice AR nR cR]] w fun e w' => e = .returned (.int .i64 1) ∧ Below w.heap.size w w' := by
  by_cases h1 : 256 < nW
  · clear h
    go_enter Try.func36, Try.ntmps36
    go_wp2_with fail
    go_ret
    exact ⟨rfl, (by repeat (first | with_reducible exact Below.refl _ _ | with_reducible (refine Below.setCell ?_ (by first | omega | (simp; done) | (simp; omega)) _) | with_reducible (refine Below.alloc ?_ (by first | omega | (simp; done) | (simp; omega)) _) | with_reducible refine Below.drew ?_ | with_reducible refine below_drewN ?_ _))⟩
  · have h2 : 8 < nR := by omega
    clear h
    go_enter Try.func36, Try.ntmps36
    go_wp2_with fail
    go_ret
    exact ⟨rfl, (by repeat (first | with_reducible exact Below.refl _ _ | with_reducible (refine Below.setCell ?_ (by first | omega | (simp; done) | (simp; omega)) _) | with_reducible (refine Below.alloc ?_ (by first | omega | (simp; done) | (simp; omega)) _) | with_reducible refine Below.drew ?_ | with_reducible refine below_drewN ?_ _))⟩

/-- A slice of words that came in. -/
structure WsIn (w : World) (A : Option Addr) (n c : Nat) (ws : List Int) : Prop where
  rd : Rd w (fun _ => True) 1 A n (u64s ws)
  cap : n ≤ c ∧ c ≤ 9223372036854775807
  nil : A = none → n = 0 ∧ c = 0
  wf : ∀ x ∈ ws, 0 ≤ x ∧ x ≤ 18446744073709551615
theorem WsIn.below {w w' : World} {A : Option Addr} {n c : Nat} {ws : List Int} (h : WsIn w A n c ws) (hb : Below w.heap.size w w') : WsIn w' A n c ws := ⟨h.rd.below hb, h.cap, h.nil, h.wf⟩
theorem WsIn.len {w : World} {A : Option Addr} {n c : Nat} {ws : List Int} (h : WsIn w A n c ws) : ws.length = n := by have := h.rd.1; simpa [u64s] using this

theorem arenaCheck_any (w : World) (AW AR : Option Addr) (nW cW nR cR : Nat) (ws rs : List Int) (hW : WsIn w AW nW cW ws) (hR : WsIn w AR nR cR rs) :
    Calls Try.prog 36 #[.agg #[.slice AW nW cW, .slice AR nR cR]] w fun e w' => e = .returned (.int .i64 (acheck nW nR ws rs)) ∧ Below w.heap.size w w' := by
  by_cases h : 256 < nW ∨ 8 < nR
  · rw [show acheck nW nR ws rs = 1 from if_pos h]
    exact acheck_large w AW AR nW cW nR cR h
  · exact acheck_in w AW AR nW cW nR cR ws rs hW.cap.1 hW.cap.2 hR.nil hW.rd hR.rd (by omega) (by omega) hW.wf hR.wf
end Go.Proofs.Ytpbafmdebflbpaa

namespace Go.Proofs.Ytpbafmdebflbpaa
open Go.RowKit Go.Maps

def placesOf (l : List (Nat × Nat)) : List Int := l.map fun p => (p.1 : Int)
theorem placesOf_snoc (l : List (Nat × Nat)) (p : Nat × Nat) : placesOf (l ++ [p]) = placesOf l ++ [(p.1 : Int)] := by simp [placesOf]
theorem ints_snoc2 (l : List Int) (x : Int) : ints (l ++ [x]) = ints l ++ [.int .i64 x] := by simp [ints]
def startsOf (nW : Nat) (ws : List Int) : List Int := if (parse nW ws 0).2 = true then placesOf (parse nW ws 0).1 else []

set_option maxRecDepth 100000 in
set_option maxHeartbeats 4000000 in
theorem refStarts_any (w : World) (Aw : Option Addr) (nw cw : Nat) (ws : List Int) (hW : WsIn w Aw nw cw ws) (hn : nw ≤ 256) :
    Calls Try.prog 40 #[.slice Aw nw cw] w fun e w' => ∃ (A : Option Addr) (n c : Nat),
      e = .returned (.tuple #[.slice A n c, .bool (parse nw ws 0).2]) ∧ n ≤ 256 ∧ Sep No w w' [rowI 3 1 A n c (ints (startsOf nw ws))] := by
  have HWL := hide hW.len
  have hws := hW.wf
  have hw0 := hW.rd
  have HS0 := hide ((Sep.nil No w).nilRow 3 1)
  clear hW
  go_enter Try.func40, Try.ntmps40
  go_wp2_with fail
  go_loopw [4, 5] (fun s4 i wr => ∃ (at_ f m : Nat) (pre : List (Nat × Nat)) (A : Option Addr) (c : Nat), at_ ≤ nw ∧ i = .int .i64 at_ ∧ s4 = .slice A m c ∧ Hid (parse nw ws 0 = (pre ++ (parse f ws at_).1, (parse f ws at_).2)) ∧ nw ≤ f + at_ ∧ m ≤ at_ ∧
    Sep No w wr [rowI 3 1 A m c (ints (placesOf pre))]) (fun _ i _ => nw - (intOf i).toNat)
  case atStart => exact ⟨0, nw, 0, [], none, 0, by omega, rfl, rfl, by simp [Hid], by omega, by omega, by simpa [placesOf] using HS0.out⟩
  case round =>
    clear HS0
    obtain ⟨at_, f, m, pre, A, c, hat, rfl, rfl, HP, hf, hml, hS⟩ := hrel
    by_cases hlt : at_ < nw
    · have hkl : at_ < ws.length := by rw [HWL.out]; exact hlt
      obtain ⟨ad, hA, _, had, hc⟩ := (hw0.below hS.below_).at_ hlt
      have e0 := hc (.int .u64 ws[at_]) (by simp [u64s, List.getElem?_eq_getElem hkl])
      have hb := hws _ (List.getElem_mem hkl)
      have hgd : ws.getD at_ 0 = ws[at_] := by rw [List.getD_eq_getElem?_getD, List.getElem?_eq_getElem hkl]; rfl
      have HGD := hide hgd
      obtain ⟨x, hx⟩ : ∃ x, ws[at_] = x := ⟨_, rfl⟩
      rw [hx] at e0 hb HGD
      obtain ⟨b1, b2⟩ := hb
      subst hA
      clear hc hx hgd
      by_cases hok : unheadOK x
      · obtain ⟨len, hlen⟩ := Int.eq_ofNat_of_zero_le (show 0 ≤ hLen x by unfold hLen; omega)
        have hl4 : len ≤ 4 := by have := hok.1; omega
        have HLEN := hide hlen
        have C := fun w' => unheadR_ok w' x b1 b2 hok
        rw [hlen] at C
        have C1 := hide C
        have HOK := hide hok
        clear C hlen hok
        go_wp2_with fail
        refine (C1.out _).mono ?_
        rintro e w1 ⟨rfl, hb1⟩
        have hS1 := (hS.below hb1).blkAt 23 #[.int .i64 len, .bool (hMark x), .int .i64 (hAge x)] rfl
        by_cases hl : at_ + 1 + len ≤ nw
        · have k1 : decide ((nw : Int) < at_ + 1 + len) = false := by simp; omega
          obtain ⟨f', hf', hps⟩ := parse_some (f := f) (len := len) hkl (by rw [HWL.out]; omega) (by rw [HGD.out]; exact HOK.out) (by rw [HGD.out]; exact HLEN.out) (by rw [HWL.out]; exact hl)
          have HPS := hide (show parse nw ws 0 = ((pre ++ [(at_, len)]) ++ (parse f' ws (at_ + 1 + len)).1, (parse f' ws (at_ + 1 + len)).2) by rw [HP.out, hps]; simp)
          have HF := hide hf'
          clear hS hps hf'
          go_wp2_with (first
            | (at_builtin
               refine wpList_app1 (cs := #[.int .i64 at_]) rfl (.tmp 32) (.tmp 34) 40 rfl sInt hS1 0 (n := m) rfl rfl rfl (by simp) rfl rfl (by omega) ?_
               intro A4 c4 w4 hS4 hC4
               (have q5 : w4.cell? ⟨w1.heap.size, 0, none⟩ = some (.int .i64 len) := by
                  obtain ⟨q1, _⟩ := hS4.rules 1 (g := w1.heap.size) (t := 23) rfl
                  rw [q1]; rfl)))
          have hS5 := hS4.sub (l := [rowI 3 1 A4 (m + 1) c4 (ints (placesOf pre) ++ [.int .i64 at_])]) (by simp)
          go_roundw
          case rel =>
            refine ⟨at_ + 1 + len, f', m + 1, pre ++ [(at_, len)], A4, c4, by omega, by go_num, rfl, HPS.out, ?_, by omega, ?_⟩
            · have h9 := HF.out; rw [HWL.out] at h9; exact h9
            · rw [placesOf_snoc, ints_snoc2]; exact hS5
          case measure => simp [intOf]; omega
        · have k1 : decide ((nw : Int) < at_ + 1 + len) = true := by simp; omega
          have hpn := parse_none (f := f) hkl (by rw [HWL.out]; omega) (by rw [HGD.out, HLEN.out, HWL.out]; omega)
          have HR := hide (show (parse nw ws 0).2 = false by rw [HP.out, hpn])
          have hS2 := ((hS1.sub (l := []) (by simp))).nilRow 3 1
          clear hS hpn
          go_wp2_with fail
          refine bodyPost_ret (v := .tuple #[.slice none 0 0, .bool false]) (by simp [results, Try.results40, go_sem]) rfl ⟨none, 0, 0, by rw [HR.out], by omega, ?_⟩
          rw [show startsOf nw ws = [] from if_neg (by rw [HR.out]; simp)]
          exact hS2
      · have C1 := hide (fun w' => unheadR_bad w' x b1 b2 hok)
        have hpn := parse_none (f := f) hkl (by rw [HWL.out]; omega) (by rw [HGD.out]; exact fun h => hok h.1)
        have HR := hide (show (parse nw ws 0).2 = false by rw [HP.out, hpn])
        clear hok hpn
        go_wp2_with fail
        refine (C1.out _).mono ?_
        rintro e w1 ⟨rfl, hb1⟩
        have hS1 := (hS.below hb1)
        go_wp2_with fail
        refine bodyPost_ret (v := .tuple #[.slice none 0 0, .bool false]) (by simp [results, Try.results40, go_sem]) rfl ⟨none, 0, 0, by rw [HR.out], by omega, ?_⟩
        rw [show startsOf nw ws = [] from if_neg (by rw [HR.out]; simp)]
        exact ((hS1.alloc _).sub (l := []) (by simp)).nilRow 3 1
    · obtain rfl : at_ = nw := by omega
      have hpe : parse f ws at_ = ([], true) := by have := parse_end (f := f) (ws := ws); rw [HWL.out] at this; exact this
      have HR := hide (show parse at_ ws 0 = (pre, true) by rw [HP.out, hpe]; simp)
      clear hpe
      go_wp2_with fail
      refine bodyPost_ret (v := .tuple #[.slice A m c, .bool true]) (by simp [results, Try.results40, go_sem]) rfl ⟨A, m, c, by rw [HR.out], by omega, ?_⟩
      rw [show startsOf at_ ws = placesOf pre from by unfold startsOf; rw [HR.out]; rfl]
      exact hS
end Go.Proofs.Ytpbafmdebflbpaa

namespace Go.Proofs.Ytpbafmdebflbpaa
open Go.RowKit Go.Maps

theorem parse_mem (f : Nat) : ∀ (ws : List Int) (a : Nat) (p : Nat × Nat), (∀ x ∈ ws, 0 ≤ x) → p ∈ (parse f ws a).1 → p.1 < ws.length ∧ unheadOK (ws.getD p.1 0) ∧ hLen (ws.getD p.1 0) = (p.2 : Int) ∧ p.1 + 1 + p.2 ≤ ws.length := by
  induction f with
  | zero => intro ws a p _ h; simp [parse] at h
  | succ f ih =>
    intro ws a p hw h
    unfold parse at h
    split at h
    · rename_i h1
      split at h
      · rename_i h2
        rcases List.mem_cons.1 h with rfl | h3
        · have h0 : 0 ≤ hLen (ws.getD a 0) := by unfold hLen; omega
          dsimp only
          exact ⟨h1, h2.1, by omega, by have := h2.2; omega⟩
        · exact ih ws _ p hw h3
      · simp at h
    · simp at h

set_option maxRecDepth 100000 in
set_option maxHeartbeats 4000000 in
theorem refFields_any (w : World) (Aw : Option Addr) (nw cw at_ len : Nat) (ws : List Int) (hW : WsIn w Aw nw cw ws) (hn : nw ≤ 256) (hok : unheadOK (ws.getD at_ 0)) (hlen : hLen (ws.getD at_ 0) = (len : Int)) (hl : at_ + 1 + len ≤ nw) :
    Calls Try.prog 66 #[.slice Aw nw cw, .int .i64 at_] w fun e w' => ∃ (A : Option Addr) (c : Nat),
      e = .returned (.slice A len c) ∧ Sep No w w' [rowI 24 1 A len c (u64s ((ws.drop (at_ + 1)).take len))] := by
  have HWL := hide hW.len
  have hws := hW.wf
  have hw0 := hW.rd
  have hlt : at_ < nw := by omega
  have hkl : at_ < ws.length := by rw [HWL.out]; exact hlt
  obtain ⟨ad, hA, _, had, hc⟩ := hw0.at_ hlt
  have e0 := hc (.int .u64 ws[at_]) (by simp [u64s, List.getElem?_eq_getElem hkl])
  have hb := hws _ (List.getElem_mem hkl)
  have hgd : ws.getD at_ 0 = ws[at_] := by rw [List.getD_eq_getElem?_getD, List.getElem?_eq_getElem hkl]; rfl
  obtain ⟨x, hx⟩ : ∃ x, ws[at_] = x := ⟨_, rfl⟩
  rw [hgd, hx] at hok hlen
  rw [hx] at e0 hb
  obtain ⟨b1, b2⟩ := hb
  subst hA
  have C := fun w' => unheadR_ok w' x b1 b2 hok
  rw [hlen] at C
  have C1 := hide C
  have hl4 : len ≤ 4 := by have := hok.1; omega
  clear C hlen hok hc hgd hx
  go_enter Try.func66, Try.ntmps66
  go_wp2_with fail
  refine (C1.out _).mono ?_
  rintro e w1 ⟨rfl, hb1⟩
  have hS1 := (((Sep.nil No w).below hb1).blkAt 23 #[.int .i64 len, .bool (hMark x), .int .i64 (hAge x)] rfl).nilRow0 24 1
  have HS1 := hide hS1
  clear hS1
  go_wp2_with fail
  go_loopw [7, 8] (fun s7 i wr => ∃ (k : Nat) (A : Option Addr) (c : Nat), k ≤ len ∧ i = .int .i64 ((k + 1 : Nat) : Int) ∧ s7 = .slice A k c ∧ Sep No w wr [rowI 24 1 A k c (u64s ((ws.drop (at_ + 1)).take k)), blkI w1.heap.size 23 #[.int .i64 len, .bool (hMark x), .int .i64 (hAge x)]]) (fun _ i _ => len + 1 - (intOf i).toNat)
  case atStart => exact ⟨0, none, 0, by omega, rfl, rfl, by simpa [u64s] using HS1.out⟩
  case round =>
    clear HS1
    obtain ⟨k, A, c, hk, rfl, rfl, hS⟩ := hrel
    obtain ⟨q1, q2, q3, q4⟩ := hS.rules 1 (g := w1.heap.size) (t := 23) rfl
    have q5 : wr.cell? ⟨w1.heap.size, 0, none⟩ = some (.int .i64 len) := by rw [q1]; rfl
    clear q1
    by_cases hlk : k < len
    · obtain ⟨j, hj⟩ : ∃ j, j = at_ + (k + 1) := ⟨_, rfl⟩
      have hjl : j < ws.length := by rw [HWL.out]; omega
      have hjn : j < nw := by omega
      obtain ⟨ad2, hA2, _, had2, hc2⟩ := (hw0.below hS.below_).at_ hjn
      injection hA2 with hA2
      subst hA2
      have e1 := hc2 (.int .u64 ws[j]) (by simp [u64s, List.getElem?_eq_getElem hjl])
      have HT := hide (show (ws.drop (at_ + 1)).take (k + 1) = (ws.drop (at_ + 1)).take k ++ [ws[j]] from by
        rw [List.take_succ_eq_append_getElem (by rw [List.length_drop]; omega), List.getElem_drop]
        congr 3
        omega)
      obtain ⟨y, hy⟩ : ∃ y, ws[j] = y := ⟨_, rfl⟩
      rw [hy] at e1 HT
      have e1' : wr.cell? (ad.add (at_ + (k + 1))) = some (.int .u64 y) := by rw [← hj]; exact e1
      have hjn' : at_ + (k + 1) < nw := by omega
      clear e1 hjn
      clear hc2 hy hjl hj
      go_wp2_with (first
        | (at_builtin
           refine wpList_app1 (cs := #[.int .u64 y]) rfl (.tmp 23) (.tmp 30) 53 rfl sWord hS 0 (n := k) rfl rfl rfl (by simp) rfl rfl (by omega) ?_
           intro A4 c4 w4 hS4 hC4))
      go_roundw
      case rel => exact ⟨k + 1, A4, c4, by omega, by go_num, rfl, by rw [HT.out, u64s_snoc]; exact hS4⟩
      case measure => simp [intOf]; omega
    · obtain rfl : k = len := by omega
      have hS' := hS.sub (l := [rowI 24 1 A k c (u64s ((ws.drop (at_ + 1)).take k))]) (by simp)
      go_wp2_with fail
      go_ret
      exact ⟨A, c, rfl, hS'⟩
end Go.Proofs.Ytpbafmdebflbpaa
