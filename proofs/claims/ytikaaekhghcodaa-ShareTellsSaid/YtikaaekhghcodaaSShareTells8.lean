/- Share: the law of a range over the pairs that are not known. Share, plain: the rounds of apart. -/
import Derived.Test.YtikaaekhghcodaaSShareTells7
set_option linter.unusedSimpArgs false
set_option linter.unusedVariables false
namespace Go.Proofs.Ytikaaekhghcodaa
open Go.RowKit Go.Shelf
attribute [local go_sem] Oper.semAt_some
theorem all_stops (F : Fence) (n : Nat) (h7 : F.fn 26) (hro : F.round = none) (hn : 1 ≤ n) (Bg Bm b N : Nat) (f : Pr → Option Nat) (D : Nat → Prop) (AO AR : Option Addr) (nO cO nR cR : Nat) (hnO : nO ≤ 24)
    (w : World) (hDg : D Bg) (hDm : D Bm) (hDb : D b) (hB : Blk w Bg 25 #[.slice AO nO cO, .slice AR nR cR]) (hBm : Blk w Bm 41 #[.map (some b)]) (hM : (pmI b N f).P w) :
    SeqStopsK F n Try.prog 26 #[.pointer (some ⟨Bg, 0, none⟩), .pointer (some ⟨Bm, 0, none⟩)] (encPr (n := nO) (f := f)) (KpD D) (fun (ys : List (Unk nO f)) => unU ys = todo nO f) (fun (pre : List (Unk nO f)) => unU pre <+: todo nO f) (todo nO f).length w := fun l J Jx W hW hJ _ hY h0 =>
  all1_in F n h7 hro hn l Bg Bm b N f D AO AR nO cO nR cR hnO J Jx hY W hDg hDm hDb (hB.below_ hW) (hBm.below_ hW) (pm_below hM hW) h0
/-- How a round's body may be left. -/
def rngP {σ : Type} (it : σ → Item) (Inv : List Pr → σ → Prop) (Inx : Code → List Pr → σ → Prop) (S : Nat → Prop) (xs : List Pr) (W : World) : Exit → Act → World → Prop
  | .normal, _, W' => ∃ s', Inv xs s' ∧ Sep S W W' [it s']
  | .ret, _, W' => ∃ s', Inx .ret xs s' ∧ Sep S W W' [it s']
  | .exit id, _, W' => ∃ s', Inx (.exit id) xs s' ∧ Sep S W W' [it s']
  | .goto t, _, W' => ∃ s', Inx (.goto t) xs s' ∧ Sep S W W' [it s']
  | .panic _, _, _ => False
  | .outgrown, _, _ => False
/-- The law where the loop's variable lies in a box of its own, and all but one thing stays as it is. -/
theorem wpIn_allB {F : Fence} {n : Nat} {g : Operand} {ps : Array Tmp} {assign body : Code} {Q : Exit → Act → World → Prop} {a : Act} {w : World}
    (hro : F.round = none) (h1 : 2 ≤ n) (hF1 : F.fn 26) (Bg Bm b N : Nat) (f : Pr → Option Nat) (hg : a.eval g = .func (.func 26) #[] #[.pointer (some ⟨Bg, 0, none⟩), .pointer (some ⟨Bm, 0, none⟩)]) (hps : ps.size = 1)
    {σ : Type} (it : σ → Item) (s0 : σ) {AO AR : Option Addr} {nO cO nR cR : Nat} (hnl : nO ≤ 24) (hB : Blk w Bg 25 #[.slice AO nO cO, .slice AR nR cR]) (hBm : Blk w Bm 41 #[.map (some b)]) (hM : (pmI b N f).P w) (hBg : ¬ (it s0).fp Bg) (hBm2 : ¬ (it s0).fp Bm) (hBb : ¬ (it s0).fp b)
    (Inv : List Pr → σ → Prop) (Inx : Code → List Pr → σ → Prop) (ht : ∀ s, Tame w.heap.size (it s)) (h0 : Inv [] s0) (hP : (it s0).P w) (hsame : ∀ s s' W, (it s).P W → (it s').P W → ∀ k, (it s').fp k → (it s).fp k) (a₁ : Pr → Nat → Act)
    (hassign : ∀ (l : Nat) (x : Pr) (W : World) (gb : Nat) (K : Act → World → Prop), W.heap.size = gb → K (a₁ x gb) (W.alloc (.cells #[.int .i64 (x.1 : Int), .int .i64 (x.2 : Int)] 44)) → assign.wpIn (F.inRound l) (n - 1 - 1) Try.prog (Exit.then K (fun _ _ _ => False)) { tmps := (ps.zip #[prV x]).foldl (fun t (p, v) => t.setIfInBounds p v) a.tmps, defers := [] } W)
    (hbody : ∀ (l : Nat) (pre : List Pr) (x : Pr) (s : σ) (gb : Nat) (W : World), w.heap.size ≤ gb → x ∈ todo nO f → (∀ y ∈ pre, y ∈ todo nO f) → pre.length < (todo nO f).length → Inv pre s → Sep (it s0).fp w W [it s, blkI gb 44 #[.int .i64 (x.1 : Int), .int .i64 (x.2 : Int)]] → body.wpIn (F.inRound l) (n - 1 - 1) Try.prog (rngP it Inv Inx (it s).fp (pre ++ [x]) W) (a₁ x gb) W)
    (hdone : ∀ (Dd : Nat) (s : σ) (W : World), w.heap.size ≤ Dd → Inv (todo nO f) s → Sep (it s0).fp w W [it s] → KeepsFrom w.heap.size w W → W.heap[Dd]? = some (.deferred (some [])) → Q .normal { a with defers := { target := .collected Dd, args := #[] } :: a.defers } W)
    (hstop : ∀ (Dd : Nat) (c : Code) (pre : List Pr) (s : σ) (W : World), w.heap.size ≤ Dd → pre <+: todo nO f → Inx c pre s → Sep (it s0).fp w W [it s] → W.heap[Dd]? = some (.deferred (some [])) → c.wpIn F n Try.prog Q { a with defers := { target := .collected Dd, args := #[] } :: a.defers } W) :
    (Code.rangeFunc g ps assign body).wpIn F n Try.prog Q a w := by
  obtain ⟨D, hDD⟩ : ∃ D : Nat → Prop, D = fun k => k < w.heap.size ∧ ¬ (it s0).fp k := ⟨_, rfl⟩
  have hDg : D Bg := by rw [hDD]; exact ⟨hB.lt, hBg⟩
  have hDm : D Bm := by rw [hDD]; exact ⟨hBm.lt, hBm2⟩
  have hDb : D b := by rw [hDD]; exact ⟨(pmI b N f).dom w hM b rfl, hBb⟩
  have hDlt : ∀ k, D k → k < w.heap.size := fun k h => by rw [hDD] at h; exact h.1
  have hDn : ∀ k, D k → ¬ (it s0).fp k := fun k h => by rw [hDD] at h; exact h.2
  have hown : ∀ (J : List (Unk nO f) → σ → Prop), OwnFrom w.heap.size (fun (pre : List (Unk nO f)) W => ∃ s, J pre s ∧ Sep (it s0).fp w W [it s] ∧ KpD D w W ∧ KeepsFrom w.heap.size w W) := by
    rintro J pre X Y row ⟨s, hs1, hs2, hs4, hs5⟩ hgr hr
    refine ⟨s, hs1, hs2.grown (ht s) (Nat.le_refl _) hgr hr, hs4.trans ⟨hgr.size, fun k hk hd => hgr.block k hk (fun e => ?_)⟩, ownFrom_keepsFrom (β := Unit) (B' := w.heap.size) (Nat.le_refl _) () X Y row hs5 hgr hr⟩
    have h2 := (hr k e.symm).1
    have h3 := hDlt k hd
    omega
  have hcells : ∀ (X Y : World) (row : Option Nat), X.grownBy Y row → (∀ r, row = some r → w.heap.size ≤ r ∧ ∃ o : Obj, X.heap[r]? = some o ∧ o.isCells = false) → ∀ s, (it s).P X → (it s).P Y := fun X Y row hgr hr s hPX =>
    (it s).loc X Y hgr.size (fun k hk => hgr.block k ((it s).dom X hPX k hk) (fun e => by
      obtain ⟨h1, o, h2, h3⟩ := hr k e.symm
      exact (ht s).far hPX h1 h2 h3 hk)) hPX
  refine wpIn_rangeFunc_ownH hro (by omega) (gf := 26) (lb := #[.pointer (some ⟨Bg, 0, none⟩), .pointer (some ⟨Bm, 0, none⟩)]) hg hF1 (enters_of Try.func26 (by kernel_rfl) rfl)
    (all_stops F (n - 1) hF1 hro (by omega) Bg Bm b N f D AO AR nO cO nR cR hnl w hDg hDm hDb hB hBm hM)
    (fun h k => h.trans k) (fun W l o o' hl ho hc _ => ⟨by simp [World.putObj], fun k _ hd => World.putObj_heap_other (by have := hDlt k hd; omega)⟩) (Below.refl _ _) (fun x => by rw [hps]; rfl)
    (fun pre W => ∃ s, Inv (unU pre) s ∧ Sep (it s0).fp w W [it s] ∧ KpD D w W ∧ KeepsFrom w.heap.size w W)
    (fun c pre W => ∃ s, Inx c (unU pre) s ∧ Sep (it s0).fp w W [it s] ∧ KpD D w W ∧ KeepsFrom w.heap.size w W)
    (hown fun pre s => Inv (unU pre) s) (fun c => hown fun pre s => Inx c (unU pre) s)
    ⟨s0, h0, Sep.start hP, KpD.refl _ _, KeepsFrom.refl _ _⟩
    (fun x a' W => ∃ gb s, a' = a₁ x.1 gb ∧ Blk W gb 44 #[.int .i64 (x.1.1 : Int), .int .i64 (x.1.2 : Int)] ∧ (it s).P W ∧ ¬ (it s).fp gb ∧ w.heap.size ≤ gb) ?_ ?_ ?_ ?_ ?_
  · rintro x a' _ X Y row ⟨gb, s, h1, h2, h3, h4, h5⟩ hgr hr
    refine ⟨gb, s, h1, (hgr.block gb h2.lt (fun e => ?_)).trans h2, hcells X Y row hgr hr s h3, h4, h5⟩
    obtain ⟨_, o, h6, h7⟩ := hr gb e.symm
    rw [show X.heap[gb]? = _ from h2] at h6
    injection h6 with h6
    subst h6
    cases h7
  · rintro l pre x W K ⟨s, hs1, hs2, hs4, hs5⟩ hK
    refine hassign l x.1 W _ K rfl (hK _ _ ((KeepsOthers.alloc W _).from _) (KpD.alloc W _) ⟨s, hs1, hs2.below ((Below.refl _ W).alloc (Nat.le_refl _) _), hs4.trans (KpD.alloc W _), hs5.trans ((KeepsOthers.alloc W _).from _)⟩ ⟨W.heap.size, s, rfl, Blk.new W _ _, ?_, fun hf => ?_, hs2.bel.size⟩)
    · exact (hs2.below ((Below.refl _ W).alloc (Nat.le_refl _) _)).all _ (by simp)
    · exact Nat.lt_irrefl _ ((it s).dom W (hs2.all _ (by simp)) _ hf)
  · rintro l pre x a' W _ _ ⟨s, hs1, hs2, hs4, hs5⟩ ⟨gb, s', rfl, hb, hP', hnf, hgb⟩ hlen
    have hPs : (it s).P W := hs2.all _ (by simp)
    have hap : unU (pre ++ [x]) = unU pre ++ [x.1] := by simp [unU]
    have hdis : ∀ k, (it s).fp k → ¬ D k := fun k hk hd => by
      rcases hs2.own _ (by simp) k hk with h | h
      · exact hDn k hd h
      · have := hDlt k hd; omega
    have fin : ∀ (W' : World) (s' : σ), Sep (it s).fp W W' [it s'] → KeepsFrom w.heap.size W W' ∧ KpD D W W' ∧ Sep (it s0).fp w W' [it s'] ∧ KpD D w W' ∧ KeepsFrom w.heap.size w W' := fun W' s' h => by
      have k1 : KeepsFrom w.heap.size W W' := h.bel.keepsFrom fun k o hk ho hc => (ht s).far hPs hk ho hc
      have k2 : KpD D W W' := KpD.of_chg h.bel hdis
      exact ⟨k1, k2, hs2.call 0 rfl h, hs4.trans k2, hs5.trans k1⟩
    have hS2 : Sep (it s0).fp w W [it s, blkI gb 44 #[.int .i64 (x.1.1 : Int), .int .i64 (x.1.2 : Int)]] := hs2.snoc (blkI gb _ _) hb (fun k hk => by rw [show k = gb from hk]; exact .inr hgb) (fun j hj k hk hk2 => by
      rw [List.mem_singleton.1 hj] at hk2
      rw [show k = gb from hk] at hk2
      exact hnf (hsame s' s W hP' hPs gb hk2))
    refine wpIn_mono (hbody l (unU pre) x.1 s gb W hgb x.2 (fun y hy => by obtain ⟨z, _, rfl⟩ := List.mem_map.1 hy; exact z.2) (by simpa [unU] using hlen) hs1 hS2) ?_
    intro e a3 W' hp
    cases e with
    | normal => obtain ⟨s', h2, h3⟩ := hp; obtain ⟨k1, k2, k3⟩ := fin W' s' h3; exact ⟨k1, k2, s', by rw [hap]; exact h2, k3⟩
    | ret => obtain ⟨s', h2, h3⟩ := hp; obtain ⟨k1, k2, k3⟩ := fin W' s' h3; exact ⟨k1, s', by rw [hap]; exact h2, k3⟩
    | exit id => obtain ⟨s', h2, h3⟩ := hp; obtain ⟨k1, k2, k3⟩ := fin W' s' h3; exact ⟨k1, s', by rw [hap]; exact h2, k3⟩
    | goto t => obtain ⟨s', h2, h3⟩ := hp; obtain ⟨k1, k2, k3⟩ := fin W' s' h3; exact ⟨k1, s', by rw [hap]; exact h2, k3⟩
    | panic ch => exact hp.elim
    | outgrown => exact hp.elim
  · rintro Dd ys W hD hys ⟨s, hs1, hs2, hs4, hs5⟩ hK
    rw [hys] at hs1
    exact hdone Dd s W hD hs1 hs2 hs5 hK
  · rintro Dd c pre W hD hpre ⟨s, hs1, hs2, hs4, hs5⟩ hK
    exact hstop Dd c (unU pre) s W hD hpre hs1 hs2 hK
end Go.Proofs.Ytikaaekhghcodaa

namespace Go.Proofs.Ytikaaekhghcodaa
/-- What is known behind so many rounds, of objects that are there. -/
def knD (gs : List (List ShV)) (nO n : Nat) : Pr → Option Nat := fun p => if p.1 < nO ∧ p.2 < nO then kn gs n p else none
/-- References go to objects. -/
def RefOk (gs : List (List ShV)) (nO : Nat) : Prop := ∀ fs ∈ gs, ∀ v ∈ fs, v.1 = true → 0 ≤ v.2 ∧ v.2 < (nO : Int)
theorem fldO_mem {gs : List (List ShV)} {a k : Nat} {v : ShV} (h : fldO gs a k = some v) : ∃ fs ∈ gs, v ∈ fs := by
  unfold fldO at h
  by_cases ha : a < gs.length
  · rw [List.getD_eq_getElem?_getD, List.getElem?_eq_getElem ha] at h
    exact ⟨gs[a], List.getElem_mem ha, List.mem_of_getElem? h⟩
  · rw [List.getD_eq_getElem?_getD, List.getElem?_eq_none (Nat.le_of_not_lt ha)] at h
    simp at h
theorem onwO_rng {gs : List (List ShV)} {nO : Nat} (h : RefOk gs nO) {p q : Pr} {k : Nat} (ho : onwO gs p k = some q) : q.1 < nO ∧ q.2 < nO := by
  unfold onwO at ho
  cases hx : fldO gs p.1 k with
  | none => rw [hx] at ho; cases ho
  | some x =>
    cases hy : fldO gs p.2 k with
    | none => rw [hx, hy] at ho; cases ho
    | some y =>
      rw [hx, hy] at ho
      dsimp only at ho
      split at ho
      · rename_i hb
        injection ho with ho
        subst ho
        obtain ⟨b1, b2⟩ := Bool.and_eq_true_iff.1 hb
        obtain ⟨fs, f1, f2⟩ := fldO_mem hx
        obtain ⟨fs', g1, g2⟩ := fldO_mem hy
        have := h fs f1 x f2 b1
        have := h fs' g1 y g2 b2
        exact ⟨by dsimp only; omega, by dsimp only; omega⟩
      · cases ho
theorem onwO_some {gs : List (List ShV)} {nO : Nat} (h : RefOk gs nO) {p q : Pr} {k : Nat} (ho : onwO gs p k = some q) : fldO gs p.1 k = some (true, (q.1 : Int)) ∧ fldO gs p.2 k = some (true, (q.2 : Int)) := by
  unfold onwO at ho
  cases hx : fldO gs p.1 k with
  | none => rw [hx] at ho; cases ho
  | some x =>
    cases hy : fldO gs p.2 k with
    | none => rw [hx, hy] at ho; cases ho
    | some y =>
      rw [hx, hy] at ho
      dsimp only at ho
      split at ho
      · rename_i hb
        injection ho with ho
        subst ho
        obtain ⟨b1, b2⟩ := Bool.and_eq_true_iff.1 hb
        obtain ⟨fs, f1, f2⟩ := fldO_mem hx
        obtain ⟨fs', g1, g2⟩ := fldO_mem hy
        have h1 := h fs f1 x f2 b1
        have h2 := h fs' g1 y g2 b2
        obtain ⟨x1, x2⟩ := x
        obtain ⟨y1, y2⟩ := y
        dsimp only at b1 b2 h1 h2 ⊢
        subst b1 b2
        rw [Int.toNat_of_nonneg h1.1, Int.toNat_of_nonneg h2.1]
        exact ⟨rfl, rfl⟩
      · cases ho
theorem tlB_knD {gs : List (List ShV)} {nO : Nat} (h : RefOk gs nO) (p : Pr) (k n m : Nat) : tlB gs (knD gs nO m) p k n = tlB gs (kn gs m) p k n := by
  unfold tlB
  split
  · rfl
  · cases ho : onwO gs p k with
    | none => rfl
    | some q =>
      show (knD gs nO m q == some (n - 1)) = (kn gs m q == some (n - 1))
      unfold knD
      rw [if_pos (onwO_rng h ho)]
/-- Who is told apart in a round. -/
def newB (gs : List (List ShV)) (n : Nat) (p : Pr) : Bool := anyT gs (kn gs n) p (n + 1)
def putA (f : Pr → Option Nat) (l : List Pr) (v : Nat) : Pr → Option Nat := fun p => if p ∈ l then some v else f p
theorem knD_next {gs : List (List ShV)} {nO n : Nat} : putA (knD gs nO n) ((todo nO (knD gs nO n)).filter (newB gs n)) (n + 1) = knD gs nO (n + 1) := by
  funext p
  unfold putA
  by_cases hp : p.1 < nO ∧ p.2 < nO
  · have e1 : knD gs nO (n + 1) p = kn gs (n + 1) p := by unfold knD; rw [if_pos hp]
    have e0 : knD gs nO n p = kn gs n p := by unfold knD; rw [if_pos hp]
    have e2 : kn gs (n + 1) p = match kn gs n p with | some j => some j | none => if anyT gs (kn gs n) p (n + 1) = true then some (n + 1) else none := rfl
    rw [e1, e2, e0]
    by_cases hm : p ∈ (todo nO (knD gs nO n)).filter (newB gs n)
    · rw [if_pos hm]
      obtain ⟨h1, h2⟩ := List.mem_filter.1 hm
      have h3 := (todo_mem.1 h1).2.2
      rw [e0] at h3
      rw [h3]
      dsimp only
      rw [if_pos (show anyT gs (kn gs n) p (n + 1) = true from h2)]
    · rw [if_neg hm]
      cases hk : kn gs n p with
      | some j => rfl
      | none =>
        dsimp only
        rw [if_neg]
        intro ha
        exact hm (List.mem_filter.2 ⟨todo_mem.2 ⟨hp.1, hp.2, by rw [e0]; exact hk⟩, ha⟩)
  · have e1 : knD gs nO (n + 1) p = none := by unfold knD; rw [if_neg hp]
    have e0 : knD gs nO n p = none := by unfold knD; rw [if_neg hp]
    rw [e1, e0, if_neg]
    intro hm
    have := todo_mem.1 (List.mem_filter.1 hm).1
    exact hp ⟨this.1, this.2.1⟩
theorem knD_end {gs : List (List ShV)} {nO n : Nat} (h : (todo nO (knD gs nO n)).filter (newB gs n) = []) (p : Pr) (hp : p.1 < nO ∧ p.2 < nO) : kn gs (n + 1) p = kn gs n p := by
  have e0 : knD gs nO n p = kn gs n p := by unfold knD; rw [if_pos hp]
  have e2 : kn gs (n + 1) p = match kn gs n p with | some j => some j | none => if anyT gs (kn gs n) p (n + 1) = true then some (n + 1) else none := rfl
  rw [e2]
  cases hk : kn gs n p with
  | some j => rfl
  | none =>
    dsimp only
    rw [if_neg]
    intro ha
    have : p ∈ (todo nO (knD gs nO n)).filter (newB gs n) := List.mem_filter.2 ⟨todo_mem.2 ⟨hp.1, hp.2, by rw [e0]; exact hk⟩, ha⟩
    rw [h] at this
    cases this
theorem todo_eq (nO : Nat) (f : Pr → Option Nat) : todo nO f = (List.range nO).flatMap (rowP nO f) := by
  unfold todo unk
  rw [show rowP 0 f nO = [] from rfl, List.append_nil]
theorem todo_putA (nO : Nat) (f : Pr → Option Nat) (c : Pr → Bool) (v : Nat) : todo nO (putA f ((todo nO f).filter c) v) = (todo nO f).filter fun p => !c p := by
  have key : ∀ a, a < nO → rowP nO (putA f ((todo nO f).filter c) v) a = (rowP nO f a).filter fun p => !c p := fun a ha => by
    unfold rowP
    rw [List.filter_map, List.filter_filter]
    congr 1
    refine List.filter_congr fun b hb => ?_
    have hb := List.mem_range.1 hb
    unfold putA
    by_cases hm : (a, b) ∈ (todo nO f).filter c
    · obtain ⟨h1, h2⟩ := List.mem_filter.1 hm
      rw [if_pos hm]
      simp [h2]
    · rw [if_neg hm]
      cases hf : f (a, b) with
      | some j => simp
      | none =>
        have h2 : c (a, b) = false := by
          cases hc : c (a, b) with
          | false => rfl
          | true => exact absurd (List.mem_filter.2 ⟨todo_mem.2 ⟨ha, hb, hf⟩, hc⟩) hm
        simp [h2]
  rw [todo_eq nO (putA f ((todo nO f).filter c) v)]
  have : ∀ l : List Nat, (∀ a ∈ l, a < nO) → l.flatMap (rowP nO (putA f ((todo nO f).filter c) v)) = (l.flatMap (rowP nO f)).filter fun p => !c p := fun l => by
    induction l with
    | nil => intro _; rfl
    | cons a l ih =>
      intro h
      rw [List.flatMap_cons, List.flatMap_cons, List.filter_append, key a (h a (List.mem_cons_self ..)), ih (fun x hx => h x (List.mem_cons_of_mem _ hx))]
  rw [this (List.range nO) (fun a ha => List.mem_range.1 ha), ← todo_eq]
theorem todo_parts (nO : Nat) (f : Pr → Option Nat) (c : Pr → Bool) (v : Nat) : (todo nO (putA f ((todo nO f).filter c) v)).length + ((todo nO f).filter c).length = (todo nO f).length := by
  rw [todo_putA]
  generalize todo nO f = l
  induction l with
  | nil => rfl
  | cons x l ih =>
    rw [List.filter_cons, List.filter_cons]
    cases c x <;> simp <;> omega
theorem todo_len (nO : Nat) (f : Pr → Option Nat) : (todo nO f).length ≤ nO * nO := by
  unfold todo unk
  rw [show rowP 0 f nO = [] from rfl, List.append_nil]
  have : ∀ l : List Nat, (l.flatMap (rowP nO f)).length ≤ l.length * nO := fun l => by
    induction l with
    | nil => simp
    | cons a l ih =>
      rw [List.flatMap_cons, List.length_append, List.length_cons, Nat.succ_mul]
      have h1 : (rowP nO f a).length ≤ nO := by
        unfold rowP
        rw [List.length_map]
        exact Nat.le_trans (List.length_filter_le _ _) (by simp)
      omega
  have h := this (List.range nO)
  rwa [List.length_range] at h
theorem putA_snoc (f : Pr → Option Nat) (l : List Pr) (p : Pr) (v : Nat) : putP (putA f l v) p v = putA f (l ++ [p]) v := by
  funext q
  unfold putP putA
  by_cases h1 : q = p
  · subst h1; simp
  · rw [if_neg h1]
    by_cases h2 : q ∈ l
    · rw [if_pos h2, if_pos (List.mem_append_left _ h2)]
    · rw [if_neg h2, if_neg]
      intro h3
      rcases List.mem_append.1 h3 with h3 | h3
      · exact h2 h3
      · exact h1 (List.mem_singleton.1 h3)
theorem putA_nil (f : Pr → Option Nat) (v : Nat) : putA f [] v = f := by funext q; unfold putA; rw [if_neg (by simp)]
end Go.Proofs.Ytikaaekhghcodaa
