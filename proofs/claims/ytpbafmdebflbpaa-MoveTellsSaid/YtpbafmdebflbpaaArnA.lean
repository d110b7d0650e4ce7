/- arena: rows of words that are objects: the model; the closure of the program's Check. -/
import Derived.Maps.OwnSet
import Derived.Test.YtpbafmdebflbpaaArA
namespace Go.Proofs.Ytpbafmdebflbpaa
open Go.RowKit Go.Maps

/-- A map from places to lengths, of the call's own. -/
def mapI (b n : Nat) (D : DataW Unit) : Item where
  fp k := k = b
  P w := w.ownsMap Try.prog 2 (plainElem Try.prog 3) b n D
  dom w h k hk := by subst hk; exact World.ownsMap.lt h
  loc w w' _ hk h := by obtain ⟨es, clock, hb, r⟩ := h; exact ⟨es, clock, (hk b rfl).trans hb, r⟩

instance unheadOK.dec (n : Int) : Decidable (unheadOK n) := by unfold unheadOK; infer_instance

/-- The objects of a row of words from a place on: where each begins, how many fields; and whether it is a row of objects. -/
def parse : Nat → List Int → Nat → List (Nat × Nat) × Bool
  | 0, ws, at_ => ([], decide (ws.length ≤ at_))
  | f + 1, ws, at_ =>
    if at_ < ws.length then
      if unheadOK (ws.getD at_ 0) ∧ hLen (ws.getD at_ 0) < (ws.length : Int) - at_ then
        ((at_, (hLen (ws.getD at_ 0)).toNat) :: (parse f ws (at_ + 1 + (hLen (ws.getD at_ 0)).toNat)).1, (parse f ws (at_ + 1 + (hLen (ws.getD at_ 0)).toNat)).2)
      else ([], false)
    else ([], true)
def mapD (l : List (Nat × Nat)) : DataW Unit := l.foldl (fun D p => D.put (.int .i64 p.1) (.lit (.int .i64 p.2))) (.map [])
def fieldsOf (ws : List Int) (l : List (Nat × Nat)) : List Int := l.flatMap fun p => (ws.drop (p.1 + 1)).take p.2
theorem mapD_snoc (l : List (Nat × Nat)) (p : Nat × Nat) : mapD (l ++ [p]) = (mapD l).put (.int .i64 p.1) (.lit (.int .i64 p.2)) := by simp [mapD]
theorem fieldsOf_snoc (ws : List Int) (l : List (Nat × Nat)) (p : Nat × Nat) : fieldsOf ws (l ++ [p]) = fieldsOf ws l ++ (ws.drop (p.1 + 1)).take p.2 := by simp [fieldsOf]

theorem u64s_one (l : List Int) : ∀ v ∈ u64s l, v.oneCell' = true := by
  intro v hv
  obtain ⟨x, _, rfl⟩ := List.mem_map.1 hv
  rfl
/-- What Check's closure has in hand. -/
def CkItems (b bm bf ba nn : Nat) (D : DataW Unit) (Af : Option Addr) (nf cf : Nat) (xs : List Int) (Aw : Option Addr) (nw cw : Nat) (Ar : Option Addr) (nr cr : Nat) : List Item :=
  [mapI b nn D, rowI 24 1 Af nf cf (u64s xs), blkI bm 135 #[.map (some b)], blkI bf 53 #[.slice Af nf cf], blkI ba 55 #[.slice Aw nw cw, .slice Ar nr cr]]

set_option maxRecDepth 100000 in
set_option maxHeartbeats 4000000 in
theorem check1_any (w : World) (Dw : Nat → Prop) (b bm bf ba nn : Nat) (D : DataW Unit) (Af : Option Addr) (nf cf : Nat) (xs : List Int) (Aw : Option Addr) (nw cw : Nat) (Ar : Option Addr) (nr cr at_ len : Nat) (mk : Bool) (age : Int) (ws : List Int)
    (hs : (allI (CkItems b bm bf ba nn D Af nf cf xs Aw nw cw Ar nr cr)).P w) (hD : ∀ g, (allI (CkItems b bm bf ba nn D Af nf cf xs Aw nw cw Ar nr cr)).fp g → ¬ Dw g) (hw : Rd w Dw 1 Aw nw (u64s ws)) (hcw : nw ≤ cw) (hcw2 : cw ≤ 9223372036854775807) (hn : nw ≤ 256) (hnn : nn ≤ 256) (hnf : nf ≤ 2000) (hat : at_ + 1 + len ≤ nw) :
    Calls Try.prog 75 #[.int .i64 at_, .agg #[.int .i64 len, .bool mk, .int .i64 age], .pointer (some ⟨bm, 0, none⟩), .pointer (some ⟨bf, 0, none⟩), .pointer (some ⟨ba, 0, none⟩)] w fun e w' => ∃ Af' cf', e = .returned (.bool true) ∧
      Sep (allI (CkItems b bm bf ba nn D Af nf cf xs Aw nw cw Ar nr cr)).fp w w' [allI (CkItems b bm bf ba (nn + 1) (D.put (.int .i64 at_) (.lit (.int .i64 len))) Af' (nf + len) cf' (xs ++ (ws.drop (at_ + 1)).take len) Aw nw cw Ar nr cr)] := by
  obtain ⟨F, hF⟩ : ∃ F, (allI (CkItems b bm bf ba nn D Af nf cf xs Aw nw cw Ar nr cr)).fp = F := ⟨_, rfl⟩
  have hS := (Sep.start hs).flat
  rw [hF] at hS hD ⊢
  clear hF hs
  have hS1 := hS.blkAt 23 #[.int .i64 len, .bool mk, .int .i64 age] rfl
  have hown : (w.alloc (.cells #[.int .i64 len, .bool mk, .int .i64 age] 23)).ownsMap Try.prog 2 (plainElem Try.prog 3) b nn D := hS1.get 0 rfl
  obtain ⟨m1, m2, m3, m4⟩ := hS.rules 2 (g := bm) (t := 135) rfl
  have m5 : w.cell? ⟨bm, 0, none⟩ = some (.map (some b)) := by rw [m1]; rfl
  have hwf1 : (Lit.int .i64 (at_ : Int)).wf = true := WalkArith.wf_i64 (by omega)
  have hwf2 : (Lit.int .i64 (len : Int)).wf = true := WalkArith.wf_i64 (by omega)
  have HS1 := hide hS1
  clear m1 hS hS1
  go_enter Try.func75, Try.ntmps75
  go_wp2_with (first
    | (at_mapUpdate
       refine wpList_mapUpdate_own _ rfl _ _ _ 135 rfl 2 3 (int_keyed Try.underlying2) Try.underlying135 _ b nn _ rfl hown (by unfold maxLen; omega) _ _ _ rfl rfl (keyOf_int_mk Try.underlying2 hwf1) _ [] (plainElem_int Try.underlying3 hwf2) ?_
       intro w1 hown1 hgrow1))
  have hS2 := HS1.out.step 0 rfl ((Chg.of_grown hgrow1).mono (fun g hx => .inl (by injection hx with hx; exact hx.symm))) (mapI b (nn + 1) (D.put (.int .i64 at_) (.lit (.int .i64 len)))) hown1 (fun g hg => .inl hg)
  have hSb : Sep F w w1 (CkItems b bm bf ba (nn + 1) (D.put (.int .i64 at_) (.lit (.int .i64 len))) Af nf cf xs Aw nw cw Ar nr cr ++ [blkI w.heap.size 23 #[.int .i64 len, .bool mk, .int .i64 age]]) := hS2
  have hS3 : Sep F w w1 (CkItems b bm bf ba (nn + 1) (D.put (.int .i64 at_) (.lit (.int .i64 len))) Af nf cf xs Aw nw cw Ar nr cr) := hSb.sub (by simp)
  have hwl : ws.length = nw := by have := hw.1; simpa [u64s] using this
  obtain ⟨ad, rfl, hw0, hw1, hwc⟩ := hw.2 (by omega)
  have hR : Rd w1 Dw 1 (some ad) nw (u64s ws) := hw.chg hSb.bel hD
  obtain ⟨f1, f2, f3, f4⟩ := hSb.rules 3 (g := bf) (t := 53) rfl
  obtain ⟨a1, a2, a3, a4⟩ := hSb.rules 4 (g := ba) (t := 55) rfl
  obtain ⟨h1, h2, h3, h4⟩ := hSb.rules 5 (g := w.heap.size) (t := 23) rfl
  have f5 : w1.cell? ⟨bf, 0, none⟩ = some (.slice Af nf cf) := by rw [f1]; rfl
  have a5 : w1.cell? ⟨ba, 0, none⟩ = some (.slice (some ad) nw cw) := by rw [a1]; rfl
  have h5 : w1.cell? ⟨w.heap.size, 0, none⟩ = some (.int .i64 len) := by rw [h1]; rfl
  obtain ⟨at1, hat1⟩ : ∃ at1, at1 = at_ + 1 := ⟨_, rfl⟩
  obtain ⟨at2, hat2⟩ : ∃ at2, at2 = at1 + len := ⟨_, rfl⟩
  have w1e : IntKind.i64.wrap ((at_ : Int) + 1) = (at1 : Int) := by
    simp only [IntKind.wrap, IntKind.bits, IntKind.signed]
    subst hat1; go_num
  have w2e : IntKind.i64.wrap ((at1 : Int) + (len : Int)) = (at2 : Int) := by
    simp only [IntKind.wrap, IntKind.bits, IntKind.signed]
    subst hat2 hat1; go_num
  have w3e : max (at2 : Int) 0 = (at2 : Int) := by omega
  have w4e : at2 ≤ cw := by omega
  have w5e : at1 ≤ at2 := by omega
  have HR : Rd w1 (fun _ => True) 1 (if cw = at1 then some ad else some (ad.add at1)) (at2 - at1) (u64s ((ws.drop at1).take len)) := by
    have h6 := (hR.cut (k := at1) (cap := cw) (by omega) hcw).take (k := at2 - at1) (by omega)
    have e6 : ((u64s ws).drop (at1 * 1)).take ((at2 - at1) * 1) = u64s ((ws.drop at1).take len) := by
      rw [Nat.mul_one, Nat.mul_one, show at2 - at1 = len by omega]
      unfold u64s; rw [List.map_take, List.map_drop]
    rw [e6, Nat.mul_one] at h6
    exact h6.more (fun _ _ _ => trivial)
  have HSb : ∀ k, Sep F w (w1.drewN k) (CkItems b bm bf ba (nn + 1) (D.put (.int .i64 at_) (.lit (.int .i64 len))) Af nf cf xs (some ad) nw cw Ar nr cr) := fun k => hS3.drewN k
  have HX := hide (show at2 - at1 = len by omega)
  have HE := hide hat1
  have HON := hide (u64s_one ((ws.drop at1).take len))
  have hbd : (nf + (at2 - at1)) * 8 ≤ 140737488355328 := by omega
  clear f1 a1 h1 hwc hown hown1 hgrow1 HS1 m2 m3 m4 m5 hwf1 hwf2 hS2 hSb hwl hw hat1 hat2 hR hS3
  by_cases hc : cw = at1
  · rw [if_pos hc] at HR
    subst hc
    have hl0 : len = 0 := by have := HX.out; omega
    have h0 : at2 - cw = 0 := by omega
    rw [h0] at HR hbd
    have H0 := hide (show nf + len = nf + 0 by omega)
    clear hl0 h0
    go_region_law (first
      | (refine step_app rfl (.tmp 12) (.tmp 22) 53 rfl sWord (by first | exact HSb 0 | exact (HSb 0).drew) 1 (n := nf) rfl rfl rfl (by first | exact HR | exact HR.below (Below.refl _ _).drew) HON.out hbd ?_
         intro A4 c4 w4 hS4 hC4
         obtain ⟨z1, z2, z3, z4⟩ := hS4.rules 3 (g := bf) (t := 53) rfl
         (have z5 : w4.cell? ⟨bf, 0, none⟩ = some (.slice Af nf cf) := by rw [z1]; rfl)
         clear z1))
    all_goals
      go_wp2_with fail
      go_ret
      have hS5 := hS4.set_ 3 (g := bf) (t := 53) rfl 0 (.slice A4 (nf + 0) c4)
      have e : u64s xs ++ u64s ((ws.drop cw).take len) = u64s (xs ++ (ws.drop (at_ + 1)).take len) := by
        rw [HE.out]; simp [u64s]
      rw [e] at hS5
      first | refine ⟨A4, c4, rfl, ?_⟩ | refine ⟨rfl, A4, c4, ?_⟩
      rw [H0.out]
      exact Sep.fold hS5
  · rw [if_neg hc] at HR
    go_region_law (first
      | (refine step_app rfl (.tmp 12) (.tmp 22) 53 rfl sWord (by first | exact HSb 0 | exact (HSb 0).drew) 1 (n := nf) rfl rfl rfl (by first | exact HR | exact HR.below (Below.refl _ _).drew) HON.out hbd ?_
         intro A4 c4 w4 hS4 hC4
         obtain ⟨z1, z2, z3, z4⟩ := hS4.rules 3 (g := bf) (t := 53) rfl
         (have z5 : w4.cell? ⟨bf, 0, none⟩ = some (.slice Af nf cf) := by rw [z1]; rfl)
         clear z1))
    all_goals
      go_wp2_with fail
      go_ret
      have hS5 := hS4.set_ 3 (g := bf) (t := 53) rfl 0 (.slice A4 (nf + (at2 - at1)) c4)
      rw [HX.out] at hS5
      have e : u64s xs ++ u64s ((ws.drop at1).take len) = u64s (xs ++ (ws.drop (at_ + 1)).take len) := by
        rw [HE.out]; simp [u64s]
      rw [e] at hS5
      first | refine ⟨A4, c4, rfl, ?_⟩ | refine ⟨rfl, A4, c4, ?_⟩
      rw [HX.out]
      exact Sep.fold hS5
end Go.Proofs.Ytpbafmdebflbpaa
