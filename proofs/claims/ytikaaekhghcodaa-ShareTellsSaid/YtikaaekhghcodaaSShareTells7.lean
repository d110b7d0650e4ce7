/- Share: does a field tell two objects apart at once; does a way. Share: does a way of n fields that begins with k tell two objects apart. Share: the iterator over the pairs that are not known; the law of a range over it. -/
import Derived.Test.YtikaaekhghcodaaSShareTells6
set_option linter.unusedSimpArgs false
set_option linter.unusedVariables false
namespace Go.Proofs.Ytikaaekhghcodaa
open Go.RowKit
def dif2 (x y : Option Val) : Bool := match x, y with
  | none, none => false
  | some x, some y => !(x.1 && y.1) && decide (x ≠ y)
  | _, _ => true
def onw2 (x y : Option Val) : Option Pr := match x, y with
  | some x, some y => if x.1 && y.1 then some (x.2.toNat, y.2.toNat) else none
  | _, _ => none
def valO (o : Option Val) : Val := o.getD (false, 0)
theorem fldV_eq (o : Option Val) : fldV o = .agg #[.bool (valO o).1, .int .i64 (valO o).2] := by cases o <;> rfl
theorem dif2_eq (x y : Option Val) : dif2 x y = ((x.isSome != y.isSome) || (!((valO x).1 && (valO y).1) && decide (valO x ≠ valO y))) := by
  rcases x with _ | x <;> rcases y with _ | y
  · rfl
  · simp [dif2, valO]
  · simp [dif2, valO]
  · show (!(x.1 && y.1) && decide (x ≠ y)) = (false || _)
    rw [Bool.false_or]; rfl
set_option maxRecDepth 100000 in
set_option maxHeartbeats 1600000 in
theorem differ_any (w : World) (AO AR : Option Addr) (nO cO nR cR : Nat) (obs : List Ob) (hO : ObsRd w (fun _ => True) AO nO obs) (hfl : ∀ o ∈ obs, o.n ≤ 4) (p : Pr) (h1 : p.1 < nO) (h2 : p.2 < nO) (hn : nO ≤ 24) (k : Nat) :
    Calls Try.prog 27 #[.agg #[.slice AO nO cO, .slice AR nR cR], prV p, .int .i64 (k : Int)] w fun e w' => e = .returned (.bool (difB (obs.map Ob.fields) p k)) ∧ Below w.heap.size w w' := by
  have hS0 := ((Sep.nil No w).blkAt 25 #[.slice AO nO cO, .slice AR nR cR] rfl).blkAt 44 #[.int .i64 (p.1 : Int), .int .i64 (p.2 : Int)] (g := w.heap.size + 1) (by simp)
  have hO0 := hO.below hS0.below_
  obtain ⟨ad, o1, _, hA, _, had, hc1, hr1, hg1, hn1, hl1⟩ := ob_at hO0 hfl h1
  obtain ⟨ad', o2, _, hA', _, _, hc2, hr2, hg2, hn2, hl2⟩ := ob_at hO0 hfl h2
  obtain rfl : ad = ad' := by rw [hA] at hA'; injection hA'
  have C1 := hide (field_any _ o1 k hr1 hn1 hl1)
  have HD := hide (show difB (obs.map Ob.fields) p k = dif2 o1.fields[k]? o2.fields[k]? from by unfold difB fldO; rw [hg1, hg2]; rfl)
  rw [HD.out]
  obtain ⟨p1, p2⟩ := p
  dsimp only at hc1 hc2 h1 h2 hS0
  subst hA
  obtain ⟨x, hx⟩ : ∃ x, o1.fields[k]? = x := ⟨_, rfl⟩
  obtain ⟨y, hy⟩ : ∃ y, o2.fields[k]? = y := ⟨_, rfl⟩
  rw [hx, fldV_eq] at C1
  rw [hx, hy, dif2_eq]
  obtain ⟨⟨bx, nx⟩, hvx⟩ : ∃ v, valO x = v := ⟨_, rfl⟩
  obtain ⟨⟨by_, ny⟩, hvy⟩ : ∃ v, valO y = v := ⟨_, rfl⟩
  obtain ⟨ix, hix⟩ : ∃ v, x.isSome = v := ⟨_, rfl⟩
  obtain ⟨iy, hiy⟩ : ∃ v, y.isSome = v := ⟨_, rfl⟩
  rw [hvx, hix] at C1
  rw [hvx, hvy, hix, hiy]
  dsimp only at C1 ⊢
  obtain ⟨r, hr⟩ : ∃ r, (ix != iy || (!(bx && by_) && decide ((bx, nx) ≠ (by_, ny)))) = r := ⟨_, rfl⟩
  rw [hr]
  have HRR := hide hr
  clear hr
  have HS := hide hS0
  have HR2 := hide hr2
  have HN2 := hide hn2
  have HL2 := hide hl2
  have HC2 := hide hc2
  have HY := hide hy
  have t1 : decide ((p1 : Int) < (nO : Int)) = true := by simp; omega
  have t2 : decide ((p2 : Int) < (nO : Int)) = true := by simp; omega
  clear hO hO0 hfl hr1 hg1 hn1 hl1 hA' hr2 hg2 hn2 hl2 hc2 hx hy HD hS0
  unfold prV
  go_enter Try.func27, Try.ntmps27
  go_wp2_with fail
  refine C1.out.mono ?_
  rintro e w1 ⟨rfl, hB1⟩
  have hS1 := (HS.out.below hB1).blkAt 48 #[.bool bx, .int .i64 nx] (g := w1.heap.size) rfl
  have hb1 : Below _ _ (w1.alloc (.cells #[.bool bx, .int .i64 nx] 48)) := hB1.alloc hB1.size (.cells #[.bool bx, .int .i64 nx] 48)
  have hc2 := (hb1.cell (p := ad.add p2) (by rw [show (ad.add p2).block = ad.block from by unfold Addr.add; split <;> rfl]; exact had)).trans HC2.out
  have C2 := hide (field_any _ o2 k (HR2.out.below hb1) HN2.out HL2.out)
  rw [HY.out, fldV_eq, hvy, hiy] at C2
  obtain ⟨a1, a2, a3, a4⟩ := hS1.rules 0 (g := w.heap.size) (t := 25) rfl
  have a5 := a1 0
  obtain ⟨b1, b2, b3, b4⟩ := hS1.rules 1 (g := w.heap.size + 1) (t := 44) rfl
  have b5 := b1 1
  have HS1 := hide hS1
  clear a1 a4 b1 b4 hS1 C1 HS hB1 hb1 HR2 HN2 HL2 HC2 HY hc1 hvx hvy hix hiy
  go_wp2_with fail
  refine C2.out.mono ?_
  rintro e w3 ⟨rfl, hB3⟩
  have hS3 := HS1.out.below hB3
  obtain ⟨c1, c2, c3, c4⟩ := hS3.rules 2 (g := w1.heap.size) (t := 48) rfl
  have c5 := c1 0
  have c6 := c1 1
  have HB := hide (hS3.below_.alloc hS3.below_.size (.cells #[.bool by_, .int .i64 ny] 48))
  clear a2 a3 a5 b2 b3 b5 c1 c4 hS3 HS1 hB3 C2
  by_cases hi : ix = iy
  · subst hi
    have e1 : (ix != ix) = false := by cases ix <;> rfl
    rcases Decidable.em ((bx, nx) = (by_, ny)) with he | he
    · injection he with h1 h2
      subst h1 h2
      cases bx
      all_goals
        go_wp2_with fail
        go_ret
        exact ⟨by rw [← HRR.out]; simp, HB.out⟩
    · rcases val_ne he with ⟨h1, h2⟩ | ⟨h1, h2⟩ | ⟨h1, h2⟩
      · dsimp only at h1 h2
        subst h1 h2
        go_wp2_with fail
        go_ret
        exact ⟨by rw [← HRR.out]; simp, HB.out⟩
      · dsimp only at h1 h2
        subst h1 h2
        go_wp2_with fail
        go_ret
        exact ⟨by rw [← HRR.out]; simp, HB.out⟩
      · dsimp only at h1 h2
        subst h1
        have h3 : nx ≠ ny := fun h => by rw [h] at h2; simp at h2
        cases bx
        all_goals
          go_wp2_with fail
          go_ret
          exact ⟨by rw [← HRR.out]; simp [h3], HB.out⟩
  · have e1 : (ix != iy) = true := by simp [hi]
    go_wp2_with fail
    go_ret
    exact ⟨by rw [← HRR.out]; simp [e1], HB.out⟩
end Go.Proofs.Ytikaaekhghcodaa

namespace Go.Proofs.Ytikaaekhghcodaa
open Go.RowKit
theorem pm_below {b N : Nat} {f : Pr → Option Nat} {w w' : World} (h : (pmI b N f).P w) (hb : Below w.heap.size w w') : (pmI b N f).P w' :=
  (pmI b N f).loc w w' hb.size (fun k hk => hb.block k ((pmI b N f).dom w h k hk)) h
theorem onwO_eq (gs : List (List Val)) (p : Pr) (k : Nat) : onwO gs p k = onw2 (fldO gs p.1 k) (fldO gs p.2 k) := rfl
def tl2 (f : Pr → Option Nat) (n : Nat) (o : Option Pr) : Bool := match o with | some q => f q == some (n - 1) | none => false
theorem tlB_eq {gs : List (List Val)} {f : Pr → Option Nat} {p : Pr} {k n : Nat} (h : ¬ n = 1) : tlB gs f p k n = tl2 f n (onwO gs p k) := by
  unfold tlB tl2
  rw [if_neg h]
  cases onwO gs p k <;> rfl
theorem int_nat {x : Int} (h : 0 ≤ x) : ∃ k : Nat, x = (k : Int) := ⟨x.toNat, by omega⟩
theorem onw2_eq (x y : Option Val) : onw2 x y = if x.isSome && y.isSome && (valO x).1 && (valO y).1 then some ((valO x).2.toNat, (valO y).2.toNat) else none := by
  rcases x with _ | x <;> rcases y with _ | y
  · rfl
  · rfl
  · rfl
  · show (if x.1 && y.1 then some (x.2.toNat, y.2.toNat) else none) = (if (true && true && x.1 && y.1) = true then _ else _)
    simp only [Bool.true_and]; rfl
set_option maxRecDepth 100000 in
set_option maxHeartbeats 1600000 in
theorem tells_any (w : World) (AO AR : Option Addr) (nO cO nR cR : Nat) (obs : List Ob) (hO : ObsRd w (fun _ => True) AO nO obs) (hfl : ∀ o ∈ obs, o.n ≤ 4) (hv : ∀ fs ∈ obs.map Ob.fields, ∀ v ∈ fs, v.1 = true → 0 ≤ v.2 ∧ v.2 < (nO : Int)) (b N : Nat) (f : Pr → Option Nat) (hM : (pmI b N f).P w) (p : Pr) (h1 : p.1 < nO) (h2 : p.2 < nO) (hn : nO ≤ 24) (k n : Nat) (hn1 : 1 ≤ n) (hn2 : n < 1000) :
    Calls Try.prog 14 #[.agg #[.slice AO nO cO, .slice AR nR cR], .map (some b), prV p, .int .i64 (k : Int), .int .i64 (n : Int)] w fun e w' => e = .returned (.bool (tlB (obs.map Ob.fields) f p k n)) ∧ Below w.heap.size w w' := by
  have hS0 := ((Sep.nil No w).blkAt 25 #[.slice AO nO cO, .slice AR nR cR] rfl).blkAt 44 #[.int .i64 (p.1 : Int), .int .i64 (p.2 : Int)] (g := w.heap.size + 1) (by simp)
  have hO0 := hO.below hS0.below_
  by_cases hn' : n = 1
  · subst hn'
    have C1 := hide (differ_any _ AO AR nO cO nR cR obs hO0 hfl p h1 h2 hn k)
    have HB := hide hS0.below_
    unfold tlB
    rw [if_pos rfl]
    obtain ⟨r, hr⟩ : ∃ r, difB (obs.map Ob.fields) p k = r := ⟨_, rfl⟩
    rw [hr] at C1 ⊢
    clear hO hO0 hS0 hv hr hM hfl
    unfold prV at C1 ⊢
    go_enter Try.func14, Try.ntmps14
    go_wp2_with fail
    refine C1.out.mono ?_
    rintro e w1 ⟨rfl, hB1⟩
    have HB2 := hide (HB.out.trans (hB1.mono HB.out.size))
    clear hB1 HB C1
    go_wp2_with fail
    go_ret
    exact ⟨rfl, HB2.out⟩
  · obtain ⟨ad, o1, hm1, hA, _, had, hc1, hr1, hg1, hn1', hl1⟩ := ob_at hO0 hfl h1
    obtain ⟨ad', o2, hm2, hA', _, _, hc2, hr2, hg2, hn2', hl2⟩ := ob_at hO0 hfl h2
    obtain rfl : ad = ad' := by rw [hA] at hA'; injection hA'
    have C1 := hide (field_any _ o1 k hr1 hn1' hl1)
    have HD := hide (show tlB (obs.map Ob.fields) f p k n = tl2 f n (onw2 o1.fields[k]? o2.fields[k]?) from by
      rw [tlB_eq hn', onwO_eq]; unfold fldO; rw [hg1, hg2])
    rw [HD.out]
    have hrx : ∀ v, o1.fields[k]? = some v → v.1 = true → 0 ≤ v.2 ∧ v.2 < (nO : Int) := fun v hv1 => hv _ (List.mem_map.2 ⟨o1, hm1, rfl⟩) v (List.mem_of_getElem? hv1)
    have hry : ∀ v, o2.fields[k]? = some v → v.1 = true → 0 ≤ v.2 ∧ v.2 < (nO : Int) := fun v hv1 => hv _ (List.mem_map.2 ⟨o2, hm2, rfl⟩) v (List.mem_of_getElem? hv1)
    obtain ⟨p1, p2⟩ := p
    dsimp only at hc1 hc2 h1 h2 hS0
    subst hA
    obtain ⟨x, hx⟩ : ∃ x, o1.fields[k]? = x := ⟨_, rfl⟩
    obtain ⟨y, hy⟩ : ∃ y, o2.fields[k]? = y := ⟨_, rfl⟩
    rw [hx] at hrx
    rw [hy] at hry
    have hrx' : x.isSome = true → (valO x).1 = true → 0 ≤ (valO x).2 ∧ (valO x).2 < (nO : Int) := fun h => by
      cases x with
      | none => cases h
      | some v => exact hrx v rfl
    have hry' : y.isSome = true → (valO y).1 = true → 0 ≤ (valO y).2 ∧ (valO y).2 < (nO : Int) := fun h => by
      cases y with
      | none => cases h
      | some v => exact hry v rfl
    rw [hx, fldV_eq] at C1
    rw [hx, hy, onw2_eq]
    obtain ⟨⟨bx, nx⟩, hvx⟩ : ∃ v, valO x = v := ⟨_, rfl⟩
    obtain ⟨⟨by_, ny⟩, hvy⟩ : ∃ v, valO y = v := ⟨_, rfl⟩
    obtain ⟨ix, hix⟩ : ∃ v, x.isSome = v := ⟨_, rfl⟩
    obtain ⟨iy, hiy⟩ : ∃ v, y.isSome = v := ⟨_, rfl⟩
    rw [hvx, hix] at C1 hrx'
    rw [hvy, hiy] at hry'
    rw [hvx, hvy, hix, hiy]
    dsimp only at C1 hrx' hry' ⊢
    obtain ⟨r, hr⟩ : ∃ r, tl2 f n (if (ix && iy && bx && by_) = true then some (nx.toNat, ny.toNat) else none) = r := ⟨_, rfl⟩
    rw [hr]
    have HRR := hide hr
    have HS := hide hS0
    have HR2 := hide hr2
    have HN2 := hide hn2'
    have HL2 := hide hl2
    have HC2 := hide hc2
    have HY := hide hy
    have HM := hide hM
    have HRX := hide hrx'
    have HRY := hide hry'
    have t1 : decide ((p1 : Int) < (nO : Int)) = true := by simp; omega
    have t2 : decide ((p2 : Int) < (nO : Int)) = true := by simp; omega
    have t3 : ((n : Int) == 1) = false := by simp; omega
    have t4 : (n == 1) = false := by simp [hn']
    clear hO hO0 hfl hr1 hg1 hn1' hl1 hA' hr2 hg2 hn2' hl2 hc2 hx hy HD hS0 hr hrx hry hrx' hry' hM hv hm1 hm2
    unfold prV
    go_enter Try.func14, Try.ntmps14
    go_wp2_with fail
    refine C1.out.mono ?_
    rintro e w1 ⟨rfl, hB1⟩
    have hS1 := (HS.out.below hB1).blkAt 48 #[.bool bx, .int .i64 nx] (g := w1.heap.size) rfl
    have hb1 : Below _ _ (w1.alloc (.cells #[.bool bx, .int .i64 nx] 48)) := hB1.alloc hB1.size (.cells #[.bool bx, .int .i64 nx] 48)
    have hc2 := (hb1.cell (p := ad.add p2) (by rw [show (ad.add p2).block = ad.block from by unfold Addr.add; split <;> rfl]; exact had)).trans HC2.out
    have C2 := hide (field_any _ o2 k (HR2.out.below hb1) HN2.out HL2.out)
    rw [HY.out, fldV_eq, hvy, hiy] at C2
    obtain ⟨a1, a2, a3, a4⟩ := hS1.rules 0 (g := w.heap.size) (t := 25) rfl
    have a5 := a1 0
    obtain ⟨b1, b2, b3, b4⟩ := hS1.rules 1 (g := w.heap.size + 1) (t := 44) rfl
    have b5 := b1 1
    have HS1 := hide hS1
    clear a1 a4 b1 b4 hS1 C1 HS hB1 hb1 HR2 HN2 HL2 HC2 HY hc1 hvx hvy hix hiy
    go_wp2_with fail
    refine C2.out.mono ?_
    rintro e w3 ⟨rfl, hB3⟩
    have hS3 := HS1.out.below hB3
    obtain ⟨c1, c2, c3, c4⟩ := hS3.rules 2 (g := w1.heap.size) (t := 48) rfl
    have c5 := c1 0
    have c6 := c1 1
    have hB4 := hS3.below_.alloc hS3.below_.size (.cells #[.bool by_, .int .i64 ny] 48)
    have HB := hide hB4
    have hM4 := hide (pm_below HM.out hB4)
    clear a2 a3 a5 b2 b3 b5 c1 c4 hS3 HS1 hB3 C2 hB4
    cases ix
    case false =>
      go_wp2_with fail
      go_ret
      exact ⟨by rw [← HRR.out]; simp [tl2], HB.out⟩
    cases iy
    case false =>
      go_wp2_with fail
      go_ret
      exact ⟨by rw [← HRR.out]; simp [tl2], HB.out⟩
    cases bx
    case false =>
      go_wp2_with fail
      go_ret
      exact ⟨by rw [← HRR.out]; simp [tl2], HB.out⟩
    cases by_
    case false =>
      go_wp2_with fail
      go_ret
      exact ⟨by rw [← HRR.out]; simp [tl2], HB.out⟩
    obtain ⟨x0, x1⟩ := HRX.out rfl rfl
    obtain ⟨y0, y1⟩ := HRY.out rfl rfl
    obtain ⟨qx, rfl⟩ := int_nat x0
    obtain ⟨qy, rfl⟩ := int_nat y0
    have hL := pm_look0 hM4.out (qx, qy) ⟨by dsimp only; omega, by dsimp only; omega⟩
    unfold prV at hL
    dsimp only at hL
    have W1 : IntKind.i64.wrap ((n : Int) - 1) = ((n - 1 : Nat) : Int) := by simp only [IntKind.wrap_i64]; omega
    have HR := hide (show (f (qx, qy) == some (n - 1)) = r from by rw [← HRR.out]; simp [tl2])
    clear HRR HRX HRY x0 x1 y0 y1 hM4
    obtain ⟨mv, hmv⟩ : ∃ mv : Int, numO (f (qx, qy)) = mv := ⟨_, rfl⟩
    rw [hmv] at hL
    have HR3 := hide (show (mv == ((n - 1 : Nat) : Int)) = r from by
      rw [← HR.out, ← hmv]
      cases f (qx, qy) with
      | none => simp [numO]; omega
      | some m => simp only [numO]; rw [Bool.eq_iff_iff]; simp; omega)
    obtain ⟨rr, hrr⟩ : ∃ rr, (mv == ((n - 1 : Nat) : Int)) = rr := ⟨_, rfl⟩
    rw [hrr] at HR3
    clear HR hmv
    go_wp2_with fail
    go_ret
    exact ⟨by rw [HR3.out]; rfl, HB.out⟩
end Go.Proofs.Ytikaaekhghcodaa

namespace Go.Proofs.Ytikaaekhghcodaa
open Go.RowKit Go.Shelf
attribute [local go_sem] Oper.semAt_some
def rowP (b : Nat) (f : Pr → Option Nat) (a : Nat) : List Pr := ((List.range b).filter fun b => (f (a, b)).isNone).map fun b => (a, b)
/-- The pairs ahead of a place that are not known, in order. -/
def unk (n : Nat) (f : Pr → Option Nat) (a b : Nat) : List Pr := (List.range a).flatMap (rowP n f) ++ rowP b f a
def todo (n : Nat) (f : Pr → Option Nat) : List Pr := unk n f n 0
theorem unk_next (n : Nat) (f : Pr → Option Nat) (a b : Nat) : unk n f a (b + 1) = unk n f a b ++ if f (a, b) = none then [(a, b)] else [] := by
  unfold unk
  rw [List.append_assoc]
  congr 1
  unfold rowP
  rw [List.range_succ, List.filter_append, List.map_append]
  congr 1
  cases h : f (a, b) <;> simp [h]
theorem unk_row (n : Nat) (f : Pr → Option Nat) (a : Nat) : unk n f (a + 1) 0 = unk n f a n := by
  unfold unk
  rw [List.range_succ, List.flatMap_append]
  simp [rowP]
theorem unk_pre1 (n : Nat) (f : Pr → Option Nat) (a b : Nat) : unk n f a b <+: unk n f a (b + 1) := ⟨_, (unk_next n f a b).symm⟩
theorem unk_pre2 (n : Nat) (f : Pr → Option Nat) (a b : Nat) (h : b ≤ n) : unk n f a b <+: unk n f (a + 1) 0 := by
  rw [unk_row]
  have : ∀ k, unk n f a b <+: unk n f a (b + k) := fun k => by
    induction k with
    | zero => exact List.prefix_refl _
    | succ k ih => exact ih.trans (unk_pre1 n f a (b + k))
  have h2 := this (n - b)
  rw [show b + (n - b) = n from by omega] at h2
  exact h2
theorem unk_pre (n : Nat) (f : Pr → Option Nat) (a b : Nat) (ha : a < n) (h : b ≤ n) : unk n f a b <+: todo n f := by
  refine (unk_pre2 n f a b h).trans ?_
  unfold todo
  obtain ⟨k, hk⟩ : ∃ k, n = (a + 1) + k := ⟨n - (a + 1), by omega⟩
  have : ∀ k, unk n f (a + 1) 0 <+: unk n f (a + 1 + k) 0 := fun k => by
    induction k with
    | zero => exact List.prefix_refl _
    | succ k ih => exact ih.trans (unk_pre2 n f (a + 1 + k) 0 (Nat.zero_le _))
  have h2 := this k
  rw [← hk] at h2
  exact h2
theorem todo_mem {n : Nat} {f : Pr → Option Nat} {p : Pr} : p ∈ todo n f ↔ p.1 < n ∧ p.2 < n ∧ f p = none := by
  unfold todo unk
  have : rowP 0 f n = [] := rfl
  rw [this, List.append_nil, List.mem_flatMap]
  unfold rowP
  constructor
  · rintro ⟨a, ha, hp⟩
    obtain ⟨b, hb, rfl⟩ := List.mem_map.1 hp
    obtain ⟨h1, h2⟩ := List.mem_filter.1 hb
    exact ⟨List.mem_range.1 ha, List.mem_range.1 h1, by simpa using h2⟩
  · rintro ⟨h1, h2, h3⟩
    exact ⟨p.1, List.mem_range.2 h1, List.mem_map.2 ⟨p.2, List.mem_filter.2 ⟨List.mem_range.2 h2, by simp [h3]⟩, rfl⟩⟩
abbrev Unk (n : Nat) (f : Pr → Option Nat) : Type := { p : Pr // p ∈ todo n f }
def encPr {n : Nat} {f : Pr → Option Nat} (x : Unk n f) : Array Value := #[.agg #[.int .i64 (x.1.1 : Int), .int .i64 (x.1.2 : Int)]]
def unU {n : Nat} {f : Pr → Option Nat} (l : List (Unk n f)) : List Pr := l.map Subtype.val
theorem KpD.pm {D : Nat → Prop} {A B : World} (h : KpD D A B) {b N : Nat} {f : Pr → Option Nat} (hp : (pmI b N f).P A) (hd : D b) : (pmI b N f).P B :=
  (pmI b N f).loc A B h.1 (fun k hk => h.2 k ((pmI b N f).dom A hp k hk) (by rw [show k = b from hk]; exact hd)) hp
set_option maxRecDepth 100000 in
set_option maxHeartbeats 8000000 in
theorem all1_in (F : Fence) (n : Nat) (h7 : F.fn 26) (hro : F.round = none) (hn : 1 ≤ n) (l Bg Bm b N : Nat) (f : Pr → Option Nat) (D : Nat → Prop) (AO AR : Option Addr) (nO cO nR cR : Nat) (hnO : nO ≤ 24) (J Jx : List (Unk nO f) → World → Prop)
    (hY : ∀ pre x W, J pre W → pre.length < (todo nO f).length → YieldAt F (n - 1) Try.prog l (encPr x) W fun e W' =>
      (e = .returned (.bool true) ∧ J (pre ++ [x]) W' ∧ KpD D W W') ∨ (e = .returned (.bool false) ∧ Jx (pre ++ [x]) W'))
    (W : World) (hDg : D Bg) (hDm : D Bm) (hDb : D b) (hB : Blk W Bg 25 #[.slice AO nO cO, .slice AR nR cR]) (hBm : Blk W Bm 41 #[.map (some b)]) (hM : (pmI b N f).P W) (h0 : J [] W) :
    CallsIn F n Try.prog 26 #[.func (.yield l) #[] #[], .pointer (some ⟨Bg, 0, none⟩), .pointer (some ⟨Bm, 0, none⟩)] W fun e W' => (∃ v, e = .returned v) ∧
      ((∃ ys, unU ys = todo nO f ∧ J ys W') ∨ (∃ pre, unU pre <+: todo nO f ∧ Jx pre W')) := by
  refine callsIn_of_wp Try.func26 rfl h7 ?_ hro
  simp only [Try.ntmps26, List.size_toArray, List.length_cons, List.length_nil, Nat.reduceAdd, Nat.reduceSub, Array.replicate_succ, Array.replicate_zero, List.push_toArray, List.append_toArray, List.nil_append, List.cons_append]
  have g0 : W.cell? ⟨Bg, 0, none⟩ = some (.slice AO nO cO) := (hB.cell 0).trans rfl
  have HB := hide hB
  have HBM := hide hBm
  have HM := hide hM
  clear hB hBm hM
  gi_wp2
  gi_loopw [11] (fun i wr => ∃ (k : Nat) (ys : List (Unk nO f)), k ≤ nO ∧ i = .int .i64 k ∧ Hid (unU ys = unk nO f k 0) ∧ J ys wr ∧ KpD D W wr) (fun i _ => nO - (intOf i).toNat)
  case atStart => exact ⟨0, [], Nat.zero_le _, rfl, rfl, h0, KpD.refl _ _⟩
  case round =>
    clear h0
    obtain ⟨a, ys, ha, rfl, HYS, hJs, hKp⟩ := hrel
    by_cases hlt : a < nO
    · have t1 : decide ((a : Int) < (nO : Int)) = true := by simp; omega
      have g1 : wr.cell? ⟨Bg, 0, none⟩ = some (.slice AO nO cO) := ((hKp.blk HB.out hDg).cell 0).trans rfl
      gi_wp2
      gi_loopw [17] (fun i wi => ∃ (k : Nat) (ys : List (Unk nO f)), k ≤ nO ∧ i = .int .i64 k ∧ Hid (unU ys = unk nO f a k) ∧ J ys wi ∧ KpD D W wi) (fun i _ => nO - (intOf i).toNat)
      case atStart => exact ⟨0, ys, Nat.zero_le _, rfl, HYS, hJs, hKp⟩
      case round =>
        clear hJs hKp HYS g1
        obtain ⟨k, ys2, hk, rfl, HYS, hJs, hKp⟩ := hrel
        by_cases hkt : k < nO
        · have t2 : decide ((k : Int) < (nO : Int)) = true := by simp; omega
          have g2 : wr.cell? ⟨Bm, 0, none⟩ = some (.map (some b)) := ((hKp.blk HBM.out hDm).cell 0).trans rfl
          have hL := pm_look (hKp.pm HM.out hDb) (a, k) ⟨by dsimp only; omega, by dsimp only; omega⟩
          unfold prV at hL
          dsimp only at hL
          have HN := hide (unk_next nO f a k)
          have HP := hide (unk_pre nO f a (k + 1) hlt (by omega))
          cases hf : f (a, k) with
          | some j =>
            rw [hf] at hL HN
            dsimp only [numO, Option.isSome] at hL
            have HY2 := hide (show unU ys2 = unk nO f a (k + 1) from by rw [HN.out, HYS.out]; simp)
            clear HN HYS HP hf hY
            gi_wp2
            refine ⟨fun _ h => (by cases h), ?_⟩
            gi_wp2
            go_roundw
            case rel => exact ⟨k + 1, ys2, by omega, by go_num, HY2, hJs, hKp⟩
            case measure => simp [intOf]; omega
          | none =>
            have hmem : (a, k) ∈ todo nO f := todo_mem.2 ⟨hlt, hkt, hf⟩
            rw [hf] at hL HN
            dsimp only [numO, Option.isSome] at hL
            have HY2 := hide (show unU (ys2 ++ [⟨(a, k), hmem⟩]) = unk nO f a (k + 1) from by rw [HN.out, ← HYS.out]; simp [unU])
            have hlen : ys2.length < (todo nO f).length := by
              have h1 := HP.out.length_le
              rw [← HY2.out] at h1
              simp [unU] at h1
              omega
            obtain ⟨fn, tmps, assign, body, hy, hR'⟩ := hY _ ⟨(a, k), hmem⟩ wr hJs hlen
            unfold encPr at hy
            dsimp only at hy
            clear HN HYS hf hY hlen
            gi_wp2
            refine hR'.mono ?_
            rintro e W3 (⟨rfl, hJ3, hk3⟩ | ⟨rfl, hJx3⟩)
            · gi_wp2
              go_roundw
              case rel => exact ⟨k + 1, ys2 ++ [⟨(a, k), hmem⟩], by omega, by go_num, HY2, hJ3, hKp.trans hk3⟩
              case measure => simp [intOf]; omega
            · gi_wp2
              refine bodyPost_ret (results_none rfl _ _ _) rfl ?_
              exact ⟨⟨_, rfl⟩, .inr ⟨_, by rw [HY2.out]; exact HP.out, hJx3⟩⟩
        · obtain rfl : k = nO := by omega
          have HY2 := hide (show unU ys2 = unk k f (a + 1) 0 from by rw [unk_row]; exact HYS.out)
          gi_wp2
          go_roundw
          case rel => exact ⟨a + 1, ys2, by omega, by go_num, HY2, hJs, hKp⟩
          case measure => simp [intOf]; omega
    · obtain rfl : a = nO := by omega
      gi_wp2
      go_end0
      exact ⟨⟨_, rfl⟩, .inl ⟨_, HYS.out, hJs⟩⟩
end Go.Proofs.Ytikaaekhghcodaa
