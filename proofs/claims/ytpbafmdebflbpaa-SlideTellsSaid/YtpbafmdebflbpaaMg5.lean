/- arena: rows of words that are objects: the model; the closure of the program's Check. arena: the program's Walk with Check's closure. arena: the program's Check. -/
import Derived.Maps.OwnSet
import Derived.Test.YtpbafmdebflbpaaMg3
namespace Go.Proofs.Ytpbafmdebflbpaa
open Go.RowKit Go.Maps

/-- A map from places to lengths, of the call's own. -/
def mapI (b n : Nat) (D : DataW Unit) : Item where
  fp k := k = b
  P w := w.ownsMap Try.prog 2 (plainElem Try.prog 3) b n D
  dom w h k hk := by subst hk; exact World.ownsMap.lt h
  loc w w' _ hk h := by obtain ⟨es, clock, hb, r⟩ := h; exact ⟨es, clock, (hk b rfl).trans hb, r⟩

instance unheadOK.dec (n : Int) : Decidable (unheadOK n) := by unfold unheadOK; infer_instance

/-- The objects of a row of words from a place on: where each begins, how many fields; and whether it is a row of objects. -/
def parse : Nat → List Int → Nat → List (Nat × Nat) × Bool
  | 0, ws, at_ => ([], decide (ws.length ≤ at_))
  | f + 1, ws, at_ =>
    if at_ < ws.length then
      if unheadOK (ws.getD at_ 0) ∧ hLen (ws.getD at_ 0) < (ws.length : Int) - at_ then
        ((at_, (hLen (ws.getD at_ 0)).toNat) :: (parse f ws (at_ + 1 + (hLen (ws.getD at_ 0)).toNat)).1, (parse f ws (at_ + 1 + (hLen (ws.getD at_ 0)).toNat)).2)
      else ([], false)
    else ([], true)
def mapD (l : List (Nat × Nat)) : DataW Unit := l.foldl (fun D p => D.put (.int .i64 p.1) (.lit (.int .i64 p.2))) (.map [])
def fieldsOf (ws : List Int) (l : List (Nat × Nat)) : List Int := l.flatMap fun p => (ws.drop (p.1 + 1)).take p.2
theorem mapD_snoc (l : List (Nat × Nat)) (p : Nat × Nat) : mapD (l ++ [p]) = (mapD l).put (.int .i64 p.1) (.lit (.int .i64 p.2)) := by simp [mapD]
theorem fieldsOf_snoc (ws : List Int) (l : List (Nat × Nat)) (p : Nat × Nat) : fieldsOf ws (l ++ [p]) = fieldsOf ws l ++ (ws.drop (p.1 + 1)).take p.2 := by simp [fieldsOf]

theorem u64s_one (l : List Int) : ∀ v ∈ u64s l, v.oneCell' = true := by
  intro v hv
  obtain ⟨x, _, rfl⟩ := List.mem_map.1 hv
  rfl
/-- What Check's closure has in hand. -/
def CkItems (b bm bf ba nn : Nat) (D : DataW Unit) (Af : Option Addr) (nf cf : Nat) (xs : List Int) (Aw : Option Addr) (nw cw : Nat) (Ar : Option Addr) (nr cr : Nat) : List Item :=
  [mapI b nn D, rowI 24 1 Af nf cf (u64s xs), blkI bm 135 #[.map (some b)], blkI bf 53 #[.slice Af nf cf], blkI ba 55 #[.slice Aw nw cw, .slice Ar nr cr]]

set_option maxRecDepth 100000 in
set_option maxHeartbeats 4000000 in
theorem check1_any (w : World) (Dw : Nat → Prop) (b bm bf ba nn : Nat) (D : DataW Unit) (Af : Option Addr) (nf cf : Nat) (xs : List Int) (Aw : Option Addr) (nw cw : Nat) (Ar : Option Addr) (nr cr at_ len : Nat) (mk : Bool) (age : Int) (ws : List Int)
    (hs : (allI (CkItems b bm bf ba nn D Af nf cf xs Aw nw cw Ar nr cr)).P w) (hD : ∀ g, (allI (CkItems b bm bf ba nn D Af nf cf xs Aw nw cw Ar nr cr)).fp g → ¬ Dw g) (hw : Rd w Dw 1 Aw nw (u64s ws)) (hcw : nw ≤ cw) (hcw2 : cw ≤ 9223372036854775807) (hn : nw ≤ 256) (hnn : nn ≤ 256) (hnf : nf ≤ 2000) (hat : at_ + 1 + len ≤ nw) :
    Calls Try.prog 75 #[.int .i64 at_, .agg #[.int .i64 len, .bool mk, .int .i64 age], .pointer (some ⟨bm, 0, none⟩), .pointer (some ⟨bf, 0, none⟩), .pointer (some ⟨ba, 0, none⟩)] w fun e w' => ∃ Af' cf', e = .returned (.bool true) ∧
      Sep (allI (CkItems b bm bf ba nn D Af nf cf xs Aw nw cw Ar nr cr)).fp w w' [allI (CkItems b bm bf ba (nn + 1) (D.put (.int .i64 at_) (.lit (.int .i64 len))) Af' (nf + len) cf' (xs ++ (ws.drop (at_ + 1)).take len) Aw nw cw Ar nr cr)] := by
  obtain ⟨F, hF⟩ : ∃ F, (allI (CkItems b bm bf ba nn D Af nf cf xs Aw nw cw Ar nr cr)).fp = F := ⟨_, rfl⟩
  have hS := (Sep.start hs).flat
  rw [hF] at hS hD ⊢
  clear hF hs
  have hS1 := hS.blkAt 23 #[.int .i64 len, .bool mk, .int .i64 age] rfl
  have hown : (w.alloc (.cells #[.int .i64 len, .bool mk, .int .i64 age] 23)).ownsMap Try.prog 2 (plainElem Try.prog 3) b nn D := hS1.get 0 rfl
  obtain ⟨m1, m2, m3, m4⟩ := hS.rules 2 (g := bm) (t := 135) rfl
  have m5 : w.cell? ⟨bm, 0, none⟩ = some (.map (some b)) := by rw [m1]; rfl
  have hwf1 : (Lit.int .i64 (at_ : Int)).wf = true := WalkArith.wf_i64 (by omega)
  have hwf2 : (Lit.int .i64 (len : Int)).wf = true := WalkArith.wf_i64 (by omega)
  have HS1 := hide hS1
  clear m1 hS hS1
  go_enter Try.func75, Try.ntmps75
  go_wp2_with (first
    | (at_mapUpdate
       refine wpList_mapUpdate_own _ rfl _ _ _ 135 rfl 2 3 (int_keyed Try.underlying2) Try.underlying135 _ b nn _ rfl hown (by unfold maxLen; omega) _ _ _ rfl rfl (keyOf_int_mk Try.underlying2 hwf1) _ [] (plainElem_int Try.underlying3 hwf2) ?_
       intro w1 hown1 hgrow1))
  have hS2 := HS1.out.step 0 rfl ((Chg.of_grown hgrow1).mono (fun g hx => .inl (by injection hx with hx; exact hx.symm))) (mapI b (nn + 1) (D.put (.int .i64 at_) (.lit (.int .i64 len)))) hown1 (fun g hg => .inl hg)
  have hSb : Sep F w w1 (CkItems b bm bf ba (nn + 1) (D.put (.int .i64 at_) (.lit (.int .i64 len))) Af nf cf xs Aw nw cw Ar nr cr ++ [blkI w.heap.size 23 #[.int .i64 len, .bool mk, .int .i64 age]]) := hS2
  have hS3 : Sep F w w1 (CkItems b bm bf ba (nn + 1) (D.put (.int .i64 at_) (.lit (.int .i64 len))) Af nf cf xs Aw nw cw Ar nr cr) := hSb.sub (by simp)
  have hwl : ws.length = nw := by have := hw.1; simpa [u64s] using this
  obtain ⟨ad, rfl, hw0, hw1, hwc⟩ := hw.2 (by omega)
  have hR : Rd w1 Dw 1 (some ad) nw (u64s ws) := hw.chg hSb.bel hD
  obtain ⟨f1, f2, f3, f4⟩ := hSb.rules 3 (g := bf) (t := 53) rfl
  obtain ⟨a1, a2, a3, a4⟩ := hSb.rules 4 (g := ba) (t := 55) rfl
  obtain ⟨h1, h2, h3, h4⟩ := hSb.rules 5 (g := w.heap.size) (t := 23) rfl
  have f5 : w1.cell? ⟨bf, 0, none⟩ = some (.slice Af nf cf) := by rw [f1]; rfl
  have a5 : w1.cell? ⟨ba, 0, none⟩ = some (.slice (some ad) nw cw) := by rw [a1]; rfl
  have h5 : w1.cell? ⟨w.heap.size, 0, none⟩ = some (.int .i64 len) := by rw [h1]; rfl
  obtain ⟨at1, hat1⟩ : ∃ at1, at1 = at_ + 1 := ⟨_, rfl⟩
  obtain ⟨at2, hat2⟩ : ∃ at2, at2 = at1 + len := ⟨_, rfl⟩
  have w1e : IntKind.i64.wrap ((at_ : Int) + 1) = (at1 : Int) := by
    simp only [IntKind.wrap, IntKind.bits, IntKind.signed]
    subst hat1; go_num
  have w2e : IntKind.i64.wrap ((at1 : Int) + (len : Int)) = (at2 : Int) := by
    simp only [IntKind.wrap, IntKind.bits, IntKind.signed]
    subst hat2 hat1; go_num
  have w3e : max (at2 : Int) 0 = (at2 : Int) := by omega
  have w4e : at2 ≤ cw := by omega
  have w5e : at1 ≤ at2 := by omega
  have HR : Rd w1 (fun _ => True) 1 (if cw = at1 then some ad else some (ad.add at1)) (at2 - at1) (u64s ((ws.drop at1).take len)) := by
    have h6 := (hR.cut (k := at1) (cap := cw) (by omega) hcw).take (k := at2 - at1) (by omega)
    have e6 : ((u64s ws).drop (at1 * 1)).take ((at2 - at1) * 1) = u64s ((ws.drop at1).take len) := by
      rw [Nat.mul_one, Nat.mul_one, show at2 - at1 = len by omega]
      unfold u64s; rw [List.map_take, List.map_drop]
    rw [e6, Nat.mul_one] at h6
    exact h6.more (fun _ _ _ => trivial)
  have HSb : ∀ k, Sep F w (w1.drewN k) (CkItems b bm bf ba (nn + 1) (D.put (.int .i64 at_) (.lit (.int .i64 len))) Af nf cf xs (some ad) nw cw Ar nr cr) := fun k => hS3.drewN k
  have HX := hide (show at2 - at1 = len by omega)
  have HE := hide hat1
  have HON := hide (u64s_one ((ws.drop at1).take len))
  have hbd : (nf + (at2 - at1)) * 8 ≤ 140737488355328 := by omega
  clear f1 a1 h1 hwc hown hown1 hgrow1 HS1 m2 m3 m4 m5 hwf1 hwf2 hS2 hSb hwl hw hat1 hat2 hR hS3
  by_cases hc : cw = at1
  · rw [if_pos hc] at HR
    subst hc
    have hl0 : len = 0 := by have := HX.out; omega
    have h0 : at2 - cw = 0 := by omega
    rw [h0] at HR hbd
    have H0 := hide (show nf + len = nf + 0 by omega)
    clear hl0 h0
    go_region_law (first
      | (refine step_app rfl (.tmp 12) (.tmp 22) 53 rfl sWord (by first | exact HSb 0 | exact (HSb 0).drew) 1 (n := nf) rfl rfl rfl (by first | exact HR | exact HR.below (Below.refl _ _).drew) HON.out hbd ?_
         intro A4 c4 w4 hS4 hC4
         obtain ⟨z1, z2, z3, z4⟩ := hS4.rules 3 (g := bf) (t := 53) rfl
         (have z5 : w4.cell? ⟨bf, 0, none⟩ = some (.slice Af nf cf) := by rw [z1]; rfl)
         clear z1))
    all_goals
      go_wp2_with fail
      go_ret
      have hS5 := hS4.set_ 3 (g := bf) (t := 53) rfl 0 (.slice A4 (nf + 0) c4)
      have e : u64s xs ++ u64s ((ws.drop cw).take len) = u64s (xs ++ (ws.drop (at_ + 1)).take len) := by
        rw [HE.out]; simp [u64s]
      rw [e] at hS5
      first | refine ⟨A4, c4, rfl, ?_⟩ | refine ⟨rfl, A4, c4, ?_⟩
      rw [H0.out]
      exact Sep.fold hS5
  · rw [if_neg hc] at HR
    go_region_law (first
      | (refine step_app rfl (.tmp 12) (.tmp 22) 53 rfl sWord (by first | exact HSb 0 | exact (HSb 0).drew) 1 (n := nf) rfl rfl rfl (by first | exact HR | exact HR.below (Below.refl _ _).drew) HON.out hbd ?_
         intro A4 c4 w4 hS4 hC4
         obtain ⟨z1, z2, z3, z4⟩ := hS4.rules 3 (g := bf) (t := 53) rfl
         (have z5 : w4.cell? ⟨bf, 0, none⟩ = some (.slice Af nf cf) := by rw [z1]; rfl)
         clear z1))
    all_goals
      go_wp2_with fail
      go_ret
      have hS5 := hS4.set_ 3 (g := bf) (t := 53) rfl 0 (.slice A4 (nf + (at2 - at1)) c4)
      rw [HX.out] at hS5
      have e : u64s xs ++ u64s ((ws.drop at1).take len) = u64s (xs ++ (ws.drop (at_ + 1)).take len) := by
        rw [HE.out]; simp [u64s]
      rw [e] at hS5
      first | refine ⟨A4, c4, rfl, ?_⟩ | refine ⟨rfl, A4, c4, ?_⟩
      rw [HX.out]
      exact Sep.fold hS5
end Go.Proofs.Ytpbafmdebflbpaa

namespace Go.Proofs.Ytpbafmdebflbpaa
open Go.RowKit Go.Maps

theorem parse_none {f at_ : Nat} {ws : List Int} (h : at_ < ws.length) (hf : ws.length ≤ f + at_) (hn : ¬ (unheadOK (ws.getD at_ 0) ∧ hLen (ws.getD at_ 0) < (ws.length : Int) - at_)) : parse f ws at_ = ([], false) := by
  cases f with
  | zero => omega
  | succ f => simp only [parse, if_pos h, if_neg hn]
theorem parse_some {f at_ len : Nat} {ws : List Int} (h : at_ < ws.length) (hf : ws.length ≤ f + at_) (hn : unheadOK (ws.getD at_ 0)) (hl : hLen (ws.getD at_ 0) = (len : Int)) (hlt : at_ + 1 + len ≤ ws.length) :
    ∃ f', ws.length ≤ f' + (at_ + 1 + len) ∧ parse f ws at_ = ((at_, len) :: (parse f' ws (at_ + 1 + len)).1, (parse f' ws (at_ + 1 + len)).2) := by
  cases f with
  | zero => omega
  | succ f =>
    refine ⟨f, by omega, ?_⟩
    simp only [parse, if_pos h]
    rw [if_pos ⟨hn, by rw [hl]; omega⟩, hl]
    simp
theorem parse_end {f : Nat} {ws : List Int} : parse f ws ws.length = ([], true) := by
  cases f with
  | zero => simp [parse]
  | succ f => simp [parse]

set_option maxRecDepth 100000 in
set_option maxHeartbeats 4000000 in
theorem walkCk_any (w : World) (b bm bf ba : Nat) (Af0 : Option Addr) (nf0 cf0 : Nat) (xs0 : List Int) (Aw : Option Addr) (nw cw : Nat) (Ar : Option Addr) (nr cr : Nat) (ws : List Int)
    (hs : (allI (CkItems b bm bf ba 0 (mapD []) Af0 nf0 cf0 xs0 Aw nw cw Ar nr cr)).P w) (hw : Rd w (fun g => ¬ (allI (CkItems b bm bf ba 0 (mapD []) Af0 nf0 cf0 xs0 Aw nw cw Ar nr cr)).fp g) 1 Aw nw (u64s ws)) (hcw : nw ≤ cw) (hcw2 : cw ≤ 9223372036854775807) (hn : nw ≤ 256) (hnf : nf0 ≤ 1000)
    (hws : ∀ x ∈ ws, 0 ≤ x ∧ x ≤ 18446744073709551615) :
    Calls Try.prog 74 #[.slice Aw nw cw, .func (.func 75) #[] #[.pointer (some ⟨bm, 0, none⟩), .pointer (some ⟨bf, 0, none⟩), .pointer (some ⟨ba, 0, none⟩)]] w fun e w' => ∃ (pre : List (Nat × Nat)) (Af : Option Addr) (nf cf : Nat),
      e = .returned (.bool (parse nw ws 0).2) ∧ ((parse nw ws 0).2 = true → pre = (parse nw ws 0).1) ∧ nf ≤ nf0 + 256 ∧
      Sep (allI (CkItems b bm bf ba 0 (mapD []) Af0 nf0 cf0 xs0 Aw nw cw Ar nr cr)).fp w w' [allI (CkItems b bm bf ba pre.length (mapD pre) Af nf cf (xs0 ++ fieldsOf ws pre) Aw nw cw Ar nr cr)] := by
  obtain ⟨F, hF⟩ : ∃ F, (allI (CkItems b bm bf ba 0 (mapD []) Af0 nf0 cf0 xs0 Aw nw cw Ar nr cr)).fp = F := ⟨_, rfl⟩
  have hS0 := Sep.start hs
  rw [hF] at hS0 hw ⊢
  have hw0 : Rd w (fun g => g < w.heap.size ∧ ¬ F g) 1 Aw nw (u64s ws) := hw.more (fun g hg hn => ⟨hg, hn⟩)
  have HWL := hide (show ws.length = nw by have := hw.1; simpa [u64s] using this)
  have HS0 := hide hS0
  clear hF hs hw hS0
  go_enter Try.func74, Try.ntmps74
  go_wp2_with fail
  go_loopw [5] (fun i wr => ∃ (at_ f : Nat) (pre : List (Nat × Nat)) (Af : Option Addr) (nf cf : Nat), at_ ≤ nw ∧ i = .int .i64 at_ ∧ Hid (parse nw ws 0 = (pre ++ (parse f ws at_).1, (parse f ws at_).2)) ∧ nw ≤ f + at_ ∧ pre.length ≤ at_ ∧ nf ≤ nf0 + at_ ∧
    Sep F w wr [allI (CkItems b bm bf ba pre.length (mapD pre) Af nf cf (xs0 ++ fieldsOf ws pre) Aw nw cw Ar nr cr)]) (fun i _ => nw - (intOf i).toNat)
  case atStart => exact ⟨0, nw, [], Af0, nf0, cf0, by omega, rfl, by simp [Hid], by omega, by simp, by omega, by simpa [fieldsOf] using HS0.out⟩
  case round =>
    clear HS0
    obtain ⟨at_, f, pre, Af, nf, cf, hat, rfl, HP, hf, hpl, hnfl, hS⟩ := hrel
    by_cases hlt : at_ < nw
    · have hkl : at_ < ws.length := by rw [HWL.out]; exact hlt
      obtain ⟨ad, hA, _, had, hc⟩ := (hw0.chg hS.bel (fun g hF hD => hD.2 hF)).at_ hlt
      have e0 := hc (.int .u64 ws[at_]) (by simp [u64s, List.getElem?_eq_getElem hkl])
      have hb := hws _ (List.getElem_mem hkl)
      have hgd : ws.getD at_ 0 = ws[at_] := by rw [List.getD_eq_getElem?_getD, List.getElem?_eq_getElem hkl]; rfl
      have HGD := hide hgd
      obtain ⟨x, hx⟩ : ∃ x, ws[at_] = x := ⟨_, rfl⟩
      rw [hx] at e0 hb HGD
      obtain ⟨b1, b2⟩ := hb
      rw [hA]
      have HA := hide hA
      clear hc hx hgd hA
      by_cases hok : unheadOK x
      · obtain ⟨len, hlen⟩ := Int.eq_ofNat_of_zero_le (show 0 ≤ hLen x by unfold hLen; omega)
        have hl4 : len ≤ 4 := by have := hok.1; omega
        have HLEN := hide hlen
        have C := fun w' => unheadP_ok w' x b1 b2 hok
        rw [hlen] at C
        have C1 := hide C
        have HOK := hide hok
        clear C hlen hok
        go_wp2_with fail
        refine (C1.out _).mono ?_
        rintro e w1 ⟨rfl, hb1⟩
        have hS1 := (hS.below hb1).blkAt 23 #[.int .i64 len, .bool (hMark x), .int .i64 (hAge x)] rfl
        by_cases hl : at_ + 1 + len ≤ nw
        · have k1 : decide ((nw : Int) - at_ ≤ len) = false := by simp; omega
          have HC := hide (check1_any _ (fun g => g < w.heap.size ∧ ¬ F g) b bm bf ba pre.length (mapD pre) Af nf cf (xs0 ++ fieldsOf ws pre) Aw nw cw Ar nr cr at_ len (hMark x) (hAge x) ws (hS1.get 0 rfl)
            (fun g hg hD => (hS1.lo 0 rfl g hg).elim hD.2 (fun h => by omega)) (hw0.chg hS1.bel (fun g hF hD => hD.2 hF)) hcw hcw2 hn (by omega) (by omega) hl)
          obtain ⟨f', hf', hps⟩ := parse_some (f := f) (len := len) hkl (by rw [HWL.out]; omega) (by rw [HGD.out]; exact HOK.out) (by rw [HGD.out]; exact HLEN.out) (by rw [HWL.out]; exact hl)
          have HPS := hide (show parse nw ws 0 = ((pre ++ [(at_, len)]) ++ (parse f' ws (at_ + 1 + len)).1, (parse f' ws (at_ + 1 + len)).2) by rw [HP.out, hps]; simp)
          have HF := hide hf'
          clear hS hps hf'
          go_wp2_with fail
          refine HC.out.mono ?_
          rintro e w3 ⟨Af', cf', rfl, hP⟩
          have hS3 := hS1.call 0 rfl hP
          obtain ⟨q1, q2, q3, q4⟩ := hS3.rules 1 (g := w1.heap.size) (t := 23) rfl
          have q5 : w3.cell? ⟨w1.heap.size, 0, none⟩ = some (.int .i64 len) := by rw [q1]; rfl
          have hS4 := hS3.sub (l := [allI (CkItems b bm bf ba (pre.length + 1) ((mapD pre).put (.int .i64 at_) (.lit (.int .i64 len))) Af' (nf + len) cf' (xs0 ++ fieldsOf ws pre ++ (ws.drop (at_ + 1)).take len) Aw nw cw Ar nr cr)]) (by simp)
          clear q1 hS1 hS3 hP HC
          go_wp2_with fail
          go_roundw
          case rel =>
            refine ⟨at_ + 1 + len, f', pre ++ [(at_, len)], Af', nf + len, cf', by omega, by go_num, HPS.out, ?_, by simp; omega, by omega, ?_⟩
            · have h9 := HF.out; rw [HWL.out] at h9; exact h9
            · rw [mapD_snoc, fieldsOf_snoc, ← List.append_assoc, List.length_append, ← HA.out]
              exact hS4
          case measure => simp [intOf]; omega
        · have k1 : decide ((nw : Int) - at_ ≤ len) = true := by simp; omega
          have hpn := parse_none (f := f) hkl (by rw [HWL.out]; omega) (by rw [HGD.out, HLEN.out, HWL.out]; omega)
          have HR := hide (show (parse nw ws 0).2 = false by rw [HP.out, hpn])
          have hS2 := hS1.sub (l := [allI (CkItems b bm bf ba pre.length (mapD pre) Af nf cf (xs0 ++ fieldsOf ws pre) Aw nw cw Ar nr cr)]) (by simp)
          clear hS hpn
          go_wp2_with fail
          go_ret
          exact ⟨pre, Af, nf, cf, by rw [HR.out] <;> rfl, (fun h => by rw [HR.out] at h; cases h), by omega, hS2⟩
      · have C1 := hide (fun w' => unheadP_bad w' x b1 b2 hok)
        have hpn := parse_none (f := f) hkl (by rw [HWL.out]; omega) (by rw [HGD.out]; exact fun h => hok h.1)
        have HR := hide (show (parse nw ws 0).2 = false by rw [HP.out, hpn])
        clear hok hpn
        go_wp2_with fail
        refine (C1.out _).mono ?_
        rintro e w1 ⟨rfl, hb1⟩
        have hS1 := (hS.below hb1)
        go_wp2_with fail
        go_ret
        exact ⟨pre, Af, nf, cf, by rw [HR.out] <;> rfl, (fun h => by rw [HR.out] at h; cases h), by omega, hS1.alloc _⟩
    · obtain rfl : at_ = nw := by omega
      have hpe : parse f ws at_ = ([], true) := by have := parse_end (f := f) (ws := ws); rw [HWL.out] at this; exact this
      have HR := hide (show parse at_ ws 0 = (pre, true) by rw [HP.out, hpe]; simp)
      clear hpe
      go_wp2_with fail
      go_ret
      exact ⟨pre, Af, nf, cf, by rw [HR.out] <;> rfl, (fun _ => by rw [HR.out]), by omega, hS⟩
end Go.Proofs.Ytpbafmdebflbpaa

namespace Go.Proofs.Ytpbafmdebflbpaa
open Go.RowKit Go.Maps

theorem row0 {F : Nat → Prop} {W w : World} {items : List Item} (h : Sep F W w items) (k : Nat) {g t : Nat} (hk : items[k]? = some (blkI g t #[])) : Sep F W w (items.set k (rowI t 1 (some ⟨g, 0, none⟩) 0 0 [])) :=
  h.step k hk (Chg.refl _ w) _ ⟨by simp, .inr ⟨g, 0, #[], rfl, Nat.zero_le _, h.get k hk, Nat.le_refl _, by simp only [maxLen]; omega, rfl, by simp⟩⟩ (fun g' hg => .inl (by
    have : g = g' := by simpa [rowI, Value.ownBlock] using hg
    exact this.symm))

theorem eqlNil (w : World) : (binOp .eql 53 (.slice none 0 0) (.slice none 0 0)).run Try.prog w = .ok (.bool true) w := by kernel_rfl
theorem eqlSome (w : World) (ad : Addr) (n c : Nat) : (binOp .eql 53 (.slice (some ad) n c) (.slice none 0 0)).run Try.prog w = .ok (.bool false) w := by
  have h := run_equal_slice_nil (P := Try.prog) w 53 24 (some ad) n c Try.underlying53
  unfold binOp
  simp [h, go_sem]
set_option maxRecDepth 100000 in
set_option maxHeartbeats 1600000 in
theorem clone_any (w : World) (A : Option Addr) (n c : Nat) (xs : List Int) (hA : A = none → n = 0 ∧ c = 0) (hn : n ≤ 1000) (hR : Rd w (fun _ => True) 1 A n (u64s xs)) :
    Calls Try.prog 73 #[.slice A n c] w fun e w' => ∃ A' c', e = .returned (.slice A' n c') ∧ Sep No w w' [rowI 24 1 A' n c' (u64s xs)] := by
  cases A with
  | none =>
    obtain ⟨rfl, rfl⟩ := hA rfl
    have hx : u64s xs = [] := List.eq_nil_of_length_eq_zero (by have := hR.1; simpa using this)
    rw [hx]
    have HS := hide ((Sep.nil No w).nilRow 24 1)
    clear hx hR
    have hnil := eqlNil
    go_enter Try.func73, Try.ntmps73
    go_wp2_with fail
    go_ret
    exact ⟨none, 0, rfl, HS.out⟩
  | some ad =>
    have hS := row0 ((Sep.nil No w).blkAt 24 #[] rfl) 0 rfl
    have hR1 := hR.below hS.below_
    have hnil := eqlSome
    go_enter Try.func73, Try.ntmps73
    go_wp2_with (first
      | (at_builtin
         refine wpList_app rfl (.tmp 5) (.tmp 6) 53 rfl sWord hS 0 (n := 0) rfl rfl rfl hR1 (u64s_one _) (by omega) ?_
         intro A4 c4 w4 hS4 hC4))
    go_ret
    rw [Nat.zero_add] at hS4
    exact ⟨A4, c4, by first | rfl | simp, hS4⟩

def badWord (l : List (Nat × Nat)) (x : Int) : Bool := unE x != 0 || (unR x && !(l.any fun p => (p.1 : Int) == unA x))
def acheck (nW nR : Nat) (ws rs : List Int) : Int :=
  if 256 < nW ∨ 8 < nR then 1 else if (parse nW ws 0).2 = false then 4 else if (rs ++ fieldsOf ws (parse nW ws 0).1).any (badWord (parse nW ws 0).1) = true then 2 else 0

theorem has_mapD (l : List (Nat × Nat)) (y : Int) (hw : (Lit.int .i64 y).wf = true) : Maps.has (mapD l) (.int .i64 y) = l.any fun p => (p.1 : Int) == y := by
  have key : ∀ (l : List (Nat × Nat)) (D : DataW Unit), IsMap D → Maps.has (l.foldl (fun D p => D.put (.int .i64 p.1) (.lit (.int .i64 p.2))) D) (.int .i64 y) = (Maps.has D (.int .i64 y) || l.any fun p => (p.1 : Int) == y) := by
    intro l
    induction l with
    | nil => intro D _; simp
    | cons a l ih =>
      intro D hD
      have hD' : IsMap (D.put (.int .i64 a.1) (.lit (.int .i64 a.2))) := by obtain ⟨es, rfl⟩ := hD; exact ⟨_, rfl⟩
      rw [List.foldl_cons, ih _ hD', List.any_cons]
      by_cases h : (a.1 : Int) = y
      · subst h
        rw [has_put_same (k := Lit.int .i64 (a.1 : Int)) hD trivial]
        simp
      · rw [has_put_other (by intro e; injection e with _ e; exact h e.symm)]
        have : ((a.1 : Int) == y) = false := by simp [h]
        rw [this, Bool.false_or]
  have := key l (.map []) ⟨[], rfl⟩
  unfold mapD
  rw [this]
  rfl
theorem unA_wf (x : Int) (h1 : 0 ≤ x) (h2 : x ≤ 18446744073709551615) : (Lit.int .i64 (unA x)).wf = true := by
  have : -9223372036854775808 ≤ unA x ∧ unA x ≤ 9223372036854775807 := by
    unfold unA unN
    repeat' split
    all_goals omega
  exact WalkArith.wf_i64 (by omega)
theorem zeroInt (w : World) : (zeroValue 3).run Try.prog w = .ok (.int .i64 0) w := Try.zeroValue3 w

theorem perm_k5 {α : Type} (a b c d e : α) : [a, b, c, d, e].Perm [a, d, c, e, b] := by
  classical
  rw [List.perm_iff_count]
  intro x
  simp only [List.count_cons, List.count_nil]
  omega

set_option maxRecDepth 100000 in
set_option maxHeartbeats 16000000 in
theorem acheck_in (w : World) (AW AR : Option Addr) (nW cW nR cR : Nat) (ws rs : List Int) (hcW : nW ≤ cW) (hcW2 : cW ≤ 9223372036854775807) (hA : AR = none → nR = 0 ∧ cR = 0) (hW : Rd w (fun _ => True) 1 AW nW (u64s ws)) (hR : Rd w (fun _ => True) 1 AR nR (u64s rs)) (h1 : nW ≤ 256) (h2 : nR ≤ 8)
    (hws : ∀ x ∈ ws, 0 ≤ x ∧ x ≤ 18446744073709551615) (hrs : ∀ x ∈ rs, 0 ≤ x ∧ x ≤ 18446744073709551615) :
    Calls Try.prog 36 #[.agg #[.slice AW nW cW, .slice AR nR cR]] w fun e w' => e = .returned (.int .i64 (acheck nW nR ws rs)) ∧ Below w.heap.size w w' := by
  have hmm := @run_makeMap Try.prog
  have hS0 := (Sep.nil No w).blkAt 55 #[.slice AW nW cW, .slice AR nR cR] rfl
  have hown := World.ownsMap_made (H := Unit) (w.alloc (.cells #[.slice AW nW cW, .slice AR nR cR] 55)) Try.prog 2 (plainElem Try.prog 3)
  have hS1 := hS0.consNew ((Below.refl _ _).alloc (Nat.le_refl _) (.map #[] 0)) (mapI (w.alloc (.cells #[.slice AW nW cW, .slice AR nR cR] 55)).heap.size 0 (.map [])) hown (fun g hg => by rw [show g = _ from hg]; exact Nat.le_refl _)
  rw [World.size_alloc] at hS1
  have hS2 := hS1.blkAt 135 #[.map (some (w.heap.size + 1))] (g := w.heap.size + 2) (by simp)
  obtain ⟨a1, a2, a3, a4⟩ := hS2.rules 1 (g := w.heap.size) (t := 55) rfl
  have HS2 := hide hS2
  have C1 := hide (clone_any _ AR nR cR rs hA (by omega) (hR.below hS2.below_))
  clear hS0 hown hS1 hS2
  go_enter Try.func36, Try.ntmps36
  go_wp2_with fail
  refine C1.out.mono ?_
  rintro e w1 ⟨Af, cf, rfl, hP⟩
  have hS3 := HS2.out.snocNew hP.below_ _ (hP.get 0 rfl) (fun g hg => (hP.lo 0 rfl g hg).resolve_left (fun h => h))
  obtain ⟨a1', a2', a3', a4'⟩ := hS3.rules 1 (g := w.heap.size) (t := 55) rfl
  have a5 : w1.cell? ⟨w.heap.size, 0, none⟩ = some (.slice AW nW cW) := by rw [a1']; rfl
  have hS4 := (hS3.blkAt 53 #[.slice Af nR cf] rfl).perm (perm_k5 _ _ _ _ _)
  have hS5 : Sep No w _ [allI (CkItems (w.heap.size + 1) (w.heap.size + 2) w1.heap.size w.heap.size 0 (mapD []) Af nR cf rs AW nW cW AR nR cR)] := hS4.fold
  have C2 := hide (walkCk_any _ (w.heap.size + 1) (w.heap.size + 2) w1.heap.size w.heap.size Af nR cf rs AW nW cW AR nR cR ws (hS5.get 0 rfl)
    (((hW.more (D' := fun g => g < w.heap.size) (fun k hk _ => hk)).below hS5.below_).more (fun g _ hg hf => by
      rcases hS5.lo 0 rfl g hf with h | h
      · exact h
      · omega)) hcW hcW2 h1 (by omega) hws)
  have HS5 := hide hS5
  clear a1 a2 a3 a4 a1' HS2 C1 hP hS3 hS4 hS5 hmm
  go_wp2_with fail
  refine C2.out.mono ?_
  rintro e w2 ⟨pre, Af2, nf2, cf2, rfl, hpre, hnf2, hQ⟩
  have hS6 := HS5.out.call 0 rfl hQ
  have HPRE := hide hpre
  have HS6 := hide (Sep.flat hS6)
  have hacc : ¬ (256 < nW ∨ 8 < nR) := by omega
  clear HS5 C2 hQ hpre a2' a3' a4' a5
  cases hok : (parse nW ws 0).2 with
  | false =>
    have HR := hide (show acheck nW nR ws rs = 4 from (if_neg hacc).trans (if_pos hok))
    have hB := HS6.out.below_
    clear hok hacc
    go_wp2_with fail
    go_ret
    exact ⟨by rw [HR.out] <;> rfl, hB⟩
  | true =>
    have HR := hide (show acheck nW nR ws rs = (if (rs ++ fieldsOf ws pre).any (badWord pre) = true then 2 else 0) from by
      rw [HPRE.out hok]; exact (if_neg hacc).trans (if_neg (by rw [hok]; simp)))
    obtain ⟨i1, i2, i3, i4⟩ := HS6.out.rules 3 (g := w1.heap.size) (t := 53) rfl
    have i5 : w2.cell? ⟨w1.heap.size, 0, none⟩ = some (.slice Af2 nf2 cf2) := by rw [i1]; rfl
    have hxb : ∀ x ∈ rs ++ fieldsOf ws pre, 0 ≤ x ∧ x ≤ 18446744073709551615 := by
      intro x hx
      rcases List.mem_append.1 hx with h | h
      · exact hrs x h
      · obtain ⟨p, _, hp⟩ := List.mem_flatMap.1 h
        exact hws x (List.mem_of_mem_drop (List.mem_of_mem_take hp))
    have HXB := hide hxb
    have hxl := u64s_row HS6.out 1 rfl
    obtain ⟨xs, hxs⟩ : ∃ xs, rs ++ fieldsOf ws pre = xs := ⟨_, rfl⟩
    rw [hxs] at HS6 HXB HR hxl
    have HXL := hide hxl
    clear hok hacc i1 hxb hxl hxs hws hrs hW hR HPRE
    go_wp2_with fail
    clear i2 i3 i4 i5
    go_loopw [34] (fun i wr => ∃ k : Nat, k ≤ nf2 ∧ i = .int .i64 k ∧ Hid ((xs.take k).any (badWord pre) = false) ∧ Sep No w wr (CkItems (w.heap.size + 1) (w.heap.size + 2) w1.heap.size w.heap.size pre.length (mapD pre) Af2 nf2 cf2 xs AW nW cW AR nR cR)) (fun i _ => nf2 - (intOf i).toNat)
    case atStart => exact ⟨0, by omega, rfl, by simp [Hid], HS6.out⟩
    case round =>
      clear HS6
      obtain ⟨k, hk, rfl, HP, hS⟩ := hrel
      by_cases hlt : k < nf2
      · have hkl : k < xs.length := by rw [HXL.out]; exact hlt
        obtain ⟨ad, hA', _, had, hc⟩ := (hS.rd_ 1 rfl).at_ hlt
        have e0 := hc (.int .u64 xs[k]) (by simp [u64s, List.getElem?_eq_getElem hkl])
        have hb := HXB.out _ (List.getElem_mem hkl)
        have HT := hide (List.take_succ_eq_append_getElem hkl)
        have HM := hide (List.getElem_mem hkl)
        obtain ⟨x, hx⟩ : ∃ x, xs[k] = x := ⟨_, rfl⟩
        rw [hx] at e0 hb HT HM
        obtain ⟨b1, b2⟩ := hb
        have C := fun w' => unpackP_any w' x b1 b2
        have hwf := unA_wf x b1 b2
        rw [hA']
        have HA := hide hA'
        clear hc hx hA'
        by_cases hE : unE x = 0
        · rw [hE] at C
          have hnext : badWord pre x = false → Hid ((xs.take (k + 1)).any (badWord pre) = false) := fun h => by
            show _ = _
            rw [HT.out, List.any_append, HP.out]; simp [h]
          cases hr : unR x with
          | false =>
            rw [hr] at C
            have HN := hnext (by unfold badWord; rw [hE, hr]; rfl)
            have C1 := hide C
            clear C hnext hE hr
            go_wp2_with fail
            refine (C1.out _).mono ?_
            rintro e w3 ⟨rfl, hb3⟩
            have hS2 := (hS.below hb3).alloc (.cells #[.bool false, .int .i64 (unA x)] 32)
            have hown : (w3.alloc (.cells #[.bool false, .int .i64 (unA x)] 32)).ownsMap Try.prog 2 (plainElem Try.prog 3) (w.heap.size + 1) pre.length (mapD pre) := hS2.get 0 rfl
            obtain ⟨m1, m2, m3, m4⟩ := (hS.below hb3).rules 2 (g := w.heap.size + 2) (t := 135) rfl
            have m5 : w3.cell? ⟨w.heap.size + 2, 0, none⟩ = some (.map (some (w.heap.size + 1))) := by rw [m1]; rfl
            clear m1 hb3
            go_wp2_with (first
              | (at_lookup
                 refine wpList_lookup_own_ok_int _ rfl _ _ 135 rfl 2 3 .i64 (int_keyed Try.underlying2) Try.underlying135 Try.underlying3 (zeroInt _) (w.heap.size + 1) pre.length _ rfl hown _ _ rfl (keyOf_int_mk Try.underlying2 hwf) ?_
                 intro c hat hwc))
            go_roundw
            case rel => exact ⟨k + 1, by omega, by go_num, HN, by rw [← HA.out]; exact hS2⟩
            case measure => simp [intOf]; omega
          | true =>
            rw [hr] at C
            cases ht : pre.any (fun p => (p.1 : Int) == unA x) with
            | true =>
              have HN := hnext (by unfold badWord; rw [hE, hr, ht]; rfl)
              have hth : Maps.has (mapD pre) (.int .i64 (unA x)) = true := by rw [has_mapD pre _ hwf]; exact ht
              have C1 := hide C
              clear C hnext hE hr ht
              go_wp2_with fail
              refine (C1.out _).mono ?_
              rintro e w3 ⟨rfl, hb3⟩
              have hS2 := (hS.below hb3).alloc (.cells #[.bool true, .int .i64 (unA x)] 32)
              have hown : (w3.alloc (.cells #[.bool true, .int .i64 (unA x)] 32)).ownsMap Try.prog 2 (plainElem Try.prog 3) (w.heap.size + 1) pre.length (mapD pre) := hS2.get 0 rfl
              obtain ⟨m1, m2, m3, m4⟩ := (hS.below hb3).rules 2 (g := w.heap.size + 2) (t := 135) rfl
              have m5 : w3.cell? ⟨w.heap.size + 2, 0, none⟩ = some (.map (some (w.heap.size + 1))) := by rw [m1]; rfl
              clear m1 hb3
              go_wp2_with (first
                | (at_lookup
                   refine wpList_lookup_own_ok_int _ rfl _ _ 135 rfl 2 3 .i64 (int_keyed Try.underlying2) Try.underlying135 Try.underlying3 (zeroInt _) (w.heap.size + 1) pre.length _ rfl hown _ _ rfl (keyOf_int_mk Try.underlying2 hwf) ?_
                   intro c hat hwc))
              go_roundw
              case rel => exact ⟨k + 1, by omega, by go_num, HN, by rw [← HA.out]; exact hS2⟩
              case measure => simp [intOf]; omega
            | false =>
              have HN := hide (show (if xs.any (badWord pre) = true then (2 : Int) else 0) = 2 from if_pos (List.any_eq_true.2 ⟨x, HM.out, by unfold badWord; rw [hE, hr, ht]; rfl⟩))
              have hth : Maps.has (mapD pre) (.int .i64 (unA x)) = false := by rw [has_mapD pre _ hwf]; exact ht
              have C1 := hide C
              clear C hnext hE hr ht
              go_wp2_with fail
              refine (C1.out _).mono ?_
              rintro e w3 ⟨rfl, hb3⟩
              have hS2 := (hS.below hb3).alloc (.cells #[.bool true, .int .i64 (unA x)] 32)
              have hown : (w3.alloc (.cells #[.bool true, .int .i64 (unA x)] 32)).ownsMap Try.prog 2 (plainElem Try.prog 3) (w.heap.size + 1) pre.length (mapD pre) := hS2.get 0 rfl
              obtain ⟨m1, m2, m3, m4⟩ := (hS.below hb3).rules 2 (g := w.heap.size + 2) (t := 135) rfl
              have m5 : w3.cell? ⟨w.heap.size + 2, 0, none⟩ = some (.map (some (w.heap.size + 1))) := by rw [m1]; rfl
              clear m1 hb3
              go_wp2_with (first
                | (at_lookup
                   refine wpList_lookup_own_ok_int _ rfl _ _ 135 rfl 2 3 .i64 (int_keyed Try.underlying2) Try.underlying135 Try.underlying3 (zeroInt _) (w.heap.size + 1) pre.length _ rfl hown _ _ rfl (keyOf_int_mk Try.underlying2 hwf) ?_
                   intro c hat hwc))
              go_ret
              exact ⟨by rw [HR.out, HN.out] <;> rfl, hS2.below_⟩
        · have HN := hide (show (if xs.any (badWord pre) = true then (2 : Int) else 0) = 2 from if_pos (List.any_eq_true.2 ⟨x, HM.out, by unfold badWord; simp [hE]⟩))
          have y1 : (unE x != 0) = true := by simp [hE]
          have C1 := hide C
          clear C hE
          go_wp2_with fail
          refine (C1.out _).mono ?_
          rintro e w3 ⟨rfl, hb3⟩
          have hS2 := (hS.below hb3).alloc (.cells #[.bool (unR x), .int .i64 (unA x)] 32)
          go_wp2_with fail
          go_ret
          exact ⟨by rw [HR.out, HN.out] <;> rfl, hS2.below_⟩
      · obtain rfl : k = nf2 := by omega
        have hall : xs.any (badWord pre) = false := by
          have := HP.out
          rw [List.take_of_length_le (by rw [HXL.out]; omega)] at this
          exact this
        have HN := hide (show (if xs.any (badWord pre) = true then (2 : Int) else 0) = 0 from if_neg (by rw [hall]; simp))
        clear hall
        go_wp2_with fail
        go_ret
        exact ⟨by rw [HR.out, HN.out] <;> rfl, hS.below_⟩

set_option maxHeartbeats 1600000 in
theorem acheck_large (w : World) (AW AR : Option Addr) (nW cW nR cR : Nat) (h : 256 < nW ∨ 8 < nR) :
    Calls Try.prog 36 #[.agg #[.slice AW nW cW, .slice AR nR cR]] w fun e w' => e = .returned (.int .i64 1) ∧ Below w.heap.size w w' := by
  by_cases h1 : 256 < nW
  · clear h
    go_enter Try.func36, Try.ntmps36
    go_wp2_with fail
    go_ret
    exact ⟨rfl, (by repeat (first | with_reducible exact Below.refl _ _ | with_reducible (refine Below.setCell ?_ (by first | omega | (simp; done) | (simp; omega)) _) | with_reducible (refine Below.alloc ?_ (by first | omega | (simp; done) | (simp; omega)) _) | with_reducible refine Below.drew ?_ | with_reducible refine below_drewN ?_ _))⟩
  · have h2 : 8 < nR := by omega
    clear h
    go_enter Try.func36, Try.ntmps36
    go_wp2_with fail
    go_ret
    exact ⟨rfl, (by repeat (first | with_reducible exact Below.refl _ _ | with_reducible (refine Below.setCell ?_ (by first | omega | (simp; done) | (simp; omega)) _) | with_reducible (refine Below.alloc ?_ (by first | omega | (simp; done) | (simp; omega)) _) | with_reducible refine Below.drew ?_ | with_reducible refine below_drewN ?_ _))⟩

/-- A slice of words that came in. -/
structure WsIn (w : World) (A : Option Addr) (n c : Nat) (ws : List Int) : Prop where
  rd : Rd w (fun _ => True) 1 A n (u64s ws)
  cap : n ≤ c ∧ c ≤ 9223372036854775807
  nil : A = none → n = 0 ∧ c = 0
  wf : ∀ x ∈ ws, 0 ≤ x ∧ x ≤ 18446744073709551615
theorem WsIn.below {w w' : World} {A : Option Addr} {n c : Nat} {ws : List Int} (h : WsIn w A n c ws) (hb : Below w.heap.size w w') : WsIn w' A n c ws := ⟨h.rd.below hb, h.cap, h.nil, h.wf⟩
theorem WsIn.len {w : World} {A : Option Addr} {n c : Nat} {ws : List Int} (h : WsIn w A n c ws) : ws.length = n := by have := h.rd.1; simpa [u64s] using this

theorem arenaCheck_any (w : World) (AW AR : Option Addr) (nW cW nR cR : Nat) (ws rs : List Int) (hW : WsIn w AW nW cW ws) (hR : WsIn w AR nR cR rs) :
    Calls Try.prog 36 #[.agg #[.slice AW nW cW, .slice AR nR cR]] w fun e w' => e = .returned (.int .i64 (acheck nW nR ws rs)) ∧ Below w.heap.size w w' := by
  by_cases h : 256 < nW ∨ 8 < nR
  · rw [show acheck nW nR ws rs = 1 from if_pos h]
    exact acheck_large w AW AR nW cW nR cR h
  · exact acheck_in w AW AR nW cW nR cR ws rs hW.cap.1 hW.cap.2 hR.nil hW.rd hR.rd (by omega) (by omega) hW.wf hR.wf
end Go.Proofs.Ytpbafmdebflbpaa
