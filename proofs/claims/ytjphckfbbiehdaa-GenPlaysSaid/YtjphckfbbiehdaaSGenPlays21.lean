/- A region that draws its order inside a wide fence: reads and quiet calls, then one step that writes or makes memory: one walk in the text's order. What graph.Found tells: objects as found, and how far each is; the plain part. A graph that may be: what its check says. The reference's memory: the graph that it is. A script, plain: what a machine answers to it, and what it is behind it. -/
import Derived.StillTailTactics
import Derived.RangeFuncCalls
import Derived.OrdersIn
import Derived.TacticsInMore
import Derived.OwnWalkIn
import Derived.Test.YtjphckfbbiehdaaSGenPlays15
import Derived.Laws.EntriesVeiled
import Derived.Sort.LoopGhostIn
import Derived.Deep.RegionLaw
import Derived.Test.YtjphckfbbiehdaaSGenPlays12
import Derived.Test.YtjphckfbbiehdaaSGenPlays4
import Derived.Deep.RegionHeld3
import Derived.Test.YtjphckfbbiehdaaSGenPlays20
set_option linter.unusedSimpArgs false
set_option linter.unusedVariables false
namespace Go.Proofs.Ytjphckfbbiehdaa
open Go.RowKit
section
variable {F : Fence} {n : Nat} {P : Program} {ops : Array Oper} {md : Region.Mode} {w : World}
/-- A fence that bars nothing. -/
structure WideF (F : Fence) (P : Program) : Prop where
  fn : ∀ f, F.fn f
  depth : F.depth.isSome = true → False
  calls : ∀ {m : Nat} {f : FuncId} {args : Array Value} {w : World} {R : Ending → World → Prop}, Calls P f args w R → CallsIn F m P f args w R
theorem wideF_round (l : Nat) : WideF (Fence.wide.inRound l) P := ⟨fun _ => trivial, fun h => (by simp [Fence.wide] at h), fun h => CallsIn.inRound l (callsIn_wide.2 h)⟩
theorem wpOpIn_of_stOp (hF : WideF F P) {i : Nat} {a : Act} {K : Act → Prop} {K' : Act → World → Prop} {Q' : Exit → Act → World → Prop} (h : ∀ a, K a → K' a w) (hh : stOp P ops w i K a) : wpOpIn F n P ops Q' i K' a w := by
  unfold stOp at hh
  unfold wpOpIn
  split
  · rename_i ho; simp only [ho] at hh; exact h _ hh
  · rename_i o ho
    simp only [ho] at hh
    split
    · rename_i hw
      simp only [hw, if_true] at hh
      refine ⟨fun f _ => hF.fn f, ?_⟩
      have hsem : o.semAt F.round a.eval = execOp a.eval o := by
        by_cases hd : ∃ c, o.op = .defer c
        · obtain ⟨c, hc⟩ := hd
          exfalso
          unfold Oper.still at hh
          simp only [execOp, hc, Sem.run_bind] at hh
          generalize (resolve a.eval c o.type).run P w = r at hh
          cases r with
          | ok d w' => simp [Result.andThen, Oper.stillUpon] at hh
          | halt x w' => simp [Result.andThen, Oper.stillUpon] at hh
        · exact Oper.semAt_plain F _ _ (fun c hc => hd ⟨c, hc⟩)
      rw [hsem]
      unfold Oper.still at hh
      generalize (execOp a.eval o).run P w = r at *
      cases r with
      | ok m w' =>
        cases m <;> simp only [Oper.stillUpon] at hh <;> simp only [Oper.uponIn]
        case enter f args =>
          obtain ⟨rfl, v, hc, hn⟩ := hh
          exact ⟨fun hd => (hF.depth hd).elim, hF.calls (hc.mono fun e w'' ⟨he, hw⟩ => by subst he; subst hw; exact h _ hn)⟩
        all_goals (obtain ⟨rfl, h2⟩ := hh; exact h _ h2)
      | halt x w' => simp only [Oper.stillUpon] at hh
    · rename_i hw; simp only [hw] at hh; exact ⟨fun f _ => hF.fn f, h _ hh⟩
theorem wpAnyIn_of_head (hF : WideF F P) {m g : Nat} {L : Array Bool → Act → Prop} {Q' : Exit → Act → World → Prop} (hL : ∀ listed a, L listed a → wpAnyIn F n P md ops Q' g listed a w) :
    ∀ (f : Nat) (listed : Array Bool) (a : Act), wpAnyL P md ops w m L f listed a → wpAnyIn F n P md ops Q' (f + g) listed a w
  | 0, listed, a, h => by rw [Nat.zero_add]; exact hL _ _ h
  | f + 1, listed, a, h => by
    rw [show f + 1 + g = (f + g) + 1 by omega]
    exact ⟨fun h0 => absurd h0 h.1, fun i hi => wpOpIn_of_stOp hF (fun a' h' => wpAnyIn_of_head hF hL f _ a' h') (h.2 i hi).2⟩
theorem wpAnyIn_of_seq {Q' : Exit → Act → World → Prop} : ∀ (l : List Oper) (k : Nat) (listed : Array Bool) (a : Act) (w : World), (∀ j, l[j]? = ops[k + j]?) →
    Region.seqB md ops l.length k listed = true → wpListIn F n P ops Q' l a w → wpAnyIn F n P md ops Q' l.length listed a w
  | [], _, _, _, _, _, hB, h => ⟨by simpa [Region.seqB] using hB, h⟩
  | o :: l, k, listed, a, w, hl, hB, h => by
    have h0 : ops[k]? = some o := by simpa using (hl 0).symm
    simp only [List.length_cons, Region.seqB, Bool.and_eq_true, decide_eq_true_eq] at hB
    refine ⟨fun h1 => (by rw [hB.1] at h1; cases h1), fun i hi => ?_⟩
    rw [hB.1] at hi
    have hik : i = k := by simpa using hi
    subst hik
    have hw : wpOpIn F n P ops Q' i (wpListIn F n P ops Q' l) a w := by unfold wpOpIn; simp only [h0]; exact h
    exact wpOpIn_mono (fun a' w' h' => wpAnyIn_of_seq l (i + 1) _ a' w' (fun j => by have := hl (j + 1); simpa [Nat.add_assoc, Nat.add_comm 1 j] using this) hB.2 h') hw
theorem wpIn_region_still_tail (hF : WideF F P) {id : Nat} {Q : Exit → Act → World → Prop} {a : Act} {w : World} {l : List Oper} (m : Nat) (hm : P.follows .mixedOrders = true) (hB : Region.lexTailB .any l.toArray m = true)
    (h : wpStill P l.toArray w.drew (fun a' => wpListIn F n P l.toArray Q (l.drop m) a' w.drew) (l.take m) a) : (Code.region id l.toArray true).wpIn F n P Q a w := by
  simp only [Region.lexTailB, Bool.and_eq_true, decide_eq_true_eq] at hB
  obtain ⟨⟨⟨⟨hsel, hn⟩, hs⟩, hc⟩, hlex⟩ := hB
  have hn' : m < l.length := by simpa using hn
  have htl : (l.take m).length = m := by simp; omega
  have hdl : (l.drop m).length = l.toArray.size - m := by simp
  have inv0 : HeadInv .any l.toArray m (Array.replicate l.toArray.size false) :=
    ⟨by simp, fun j oj _ hl => (by rw [getD_replicate_false] at hl; cases hl), fun t _ ht => getD_in (by simpa using ht) (getD_replicate_false _ _)⟩
  have H := wpAnyL_lex (md := .any) (g := l.toArray.size - m) hsel hs hc hn (l.take m) 0 _ a (fun j hj => by
    have hj' : j < m := by rw [htl] at hj; exact hj
    simp [hj']) (by simpa using htl) inv0 (by rw [htl]; exact hlex) h
  refine wpIn_region_any hm ?_
  have := wpAnyIn_of_head (n := n) hF (Q' := Q) (g := l.toArray.size - m) (fun listed a' hL => by
    have := wpAnyIn_of_seq (F := F) (n := n) (P := P) (md := .any) (Q' := Q) (l.drop m) m listed a' w.drew (fun j => by simp [List.getElem?_drop]) (by rw [hdl]; exact hL.1) hL.2
    rwa [hdl] at this) _ _ _ H
  rw [htl, show m + (l.toArray.size - m) = l.toArray.size by omega] at this
  exact this
end
end Go.Proofs.Ytjphckfbbiehdaa

namespace Go.Proofs.Ytjphckfbbiehdaa
def tk1 (t : Int) (σ : List Int × List Int) (v : Val) : List Int × List Int := if v.1 = true ∧ σ.2.getD v.2.toNat 0 < 0 then (σ.1 ++ [v.2], σ.2.set v.2.toNat t) else σ
def tkAll (t : Int) (vs : List Val) (σ : List Int × List Int) : List Int × List Int := vs.foldl (tk1 t) σ
theorem tkAll_cons (t : Int) (v : Val) (vs : List Val) (σ : List Int × List Int) : tkAll t (v :: vs) σ = tkAll t vs (tk1 t σ v) := rfl
/-- The row of distances goes with the list. -/
structure FOk (n : Nat) (σ : List Int × List Int) : Prop where
  ok : OrdOk n σ.1
  len : σ.2.length = n
  neg : ∀ i : Nat, σ.2.getD i 0 = -1 ∨ 0 ≤ σ.2.getD i 0
  there : ∀ i : Nat, i < n → (0 ≤ σ.2.getD i 0 ↔ (i : Int) ∈ σ.1)
  bd : ∀ i : Nat, σ.2.getD i 0 < n + 1
theorem FOk.zero (n : Nat) : FOk n ([], List.replicate n (-1)) := by
  have e : ∀ i : Nat, (List.replicate n (-1 : Int)).getD i 0 = if i < n then -1 else 0 := fun i => by
    rw [List.getD_eq_getElem?_getD, List.getElem?_replicate]; split <;> simp
  refine ⟨OrdOk.nil n, by simp, fun i => ?_, fun i hi => ?_, fun i => ?_⟩
  · dsimp only; rw [e]; split <;> simp
  · dsimp only; rw [e, if_pos hi]; simp
  · dsimp only; rw [e]; split <;> omega
theorem tk1_yes {t : Int} {σ : List Int × List Int} {x : Int} (h : σ.2.getD x.toNat 0 < 0) : tk1 t σ (true, x) = (σ.1 ++ [x], σ.2.set x.toNat t) := by unfold tk1; rw [if_pos ⟨rfl, h⟩]
theorem tk1_no {t : Int} {σ : List Int × List Int} {b : Bool} {x : Int} (h : b = false ∨ 0 ≤ σ.2.getD x.toNat 0) : tk1 t σ (b, x) = σ := by
  unfold tk1
  rw [if_neg]
  rintro ⟨h1, h2⟩
  rcases h with h | h
  · dsimp only at h1; rw [h] at h1; cases h1
  · dsimp only at h2; omega
theorem FOk.seen {n : Nat} {σ : List Int × List Int} (h : FOk n σ) {v : Val} (hv : v.1 = true → 0 ≤ v.2 ∧ v.2 < (n : Int)) (t : Int) : (tk1 t σ v).1 = seen1 σ.1 v := by
  obtain ⟨b, x⟩ := v
  cases b with
  | false => rw [tk1_no (.inl rfl)]; unfold seen1; rw [if_neg (by simp)]
  | true =>
    obtain ⟨h1, h2⟩ := hv rfl
    dsimp only at h1 h2
    have := h.there x.toNat (by omega)
    rw [show ((x.toNat : Nat) : Int) = x from by omega] at this
    by_cases hx : x ∈ σ.1
    · rw [tk1_no (.inr (this.2 hx))]; unfold seen1; rw [if_neg (fun h => h.2 hx)]
    · rw [tk1_yes (by
        rcases h.neg x.toNat with h3 | h3
        · omega
        · exact absurd (this.1 h3) hx)]
      unfold seen1; rw [if_pos ⟨rfl, hx⟩]
theorem FOk.tk1 {n : Nat} {σ : List Int × List Int} (h : FOk n σ) {v : Val} (hv : v.1 = true → 0 ≤ v.2 ∧ v.2 < (n : Int)) {t : Int} (ht : 0 ≤ t ∧ t < n + 1) : FOk n (tk1 t σ v) := by
  obtain ⟨b, x⟩ := v
  cases b with
  | false => rw [tk1_no (.inl rfl)]; exact h
  | true =>
    obtain ⟨h1, h2⟩ := hv rfl
    dsimp only at h1 h2
    by_cases hx : σ.2.getD x.toNat 0 < 0
    · have hs := h.seen hv t
      have hxl := neg_lt hx
      refine ⟨by rw [hs]; exact h.ok.seen1 hv, ?_, fun i => ?_, fun i hi => ?_, fun i => ?_⟩
      · rw [tk1_yes hx]; simp; exact h.len
      · rw [tk1_yes hx]; dsimp only; rw [getD_set_ hxl]; split
        · exact .inr ht.1
        · exact h.neg i
      · rw [tk1_yes hx]; dsimp only; rw [getD_set_ hxl]
        by_cases e : i = x.toNat
        · rw [if_pos e]
          constructor
          · intro _; subst e; rw [show ((x.toNat : Nat) : Int) = x from by omega]; simp
          · intro _; exact ht.1
        · rw [if_neg e, h.there i hi]
          simp only [List.mem_append, List.mem_singleton]
          constructor
          · exact .inl
          · rintro (h3 | h3)
            · exact h3
            · omega
      · rw [tk1_yes hx]; dsimp only; rw [getD_set_ hxl]; split
        · exact ht.2
        · exact h.bd i
    · rw [tk1_no (.inr (by omega))]; exact h
theorem FOk.tkAll {n : Nat} {t : Int} (ht : 0 ≤ t ∧ t < n + 1) (vs : List Val) : ∀ {σ : List Int × List Int}, FOk n σ → ValsOk n vs → FOk n (tkAll t vs σ) ∧ (Go.Proofs.Ytjphckfbbiehdaa.tkAll t vs σ).1 = seenAll σ.1 vs := by
  induction vs with
  | nil => intro σ h _; exact ⟨h, rfl⟩
  | cons v vs ih =>
    intro σ h hv
    obtain ⟨h1, h2⟩ := ih (h.tk1 (hv v (by simp)) ht) (fun u hu => hv u (by simp [hu]))
    refine ⟨h1, ?_⟩
    rw [tkAll_cons, h2, h.seen (hv v (by simp)) t]
    rfl
/-- What holds behind the first k that were found. -/
structure FI (gs : List (List Val)) (vs : List Val) (k : Nat) (σ : List Int × List Int) : Prop where
  f : FOk gs.length σ
  lev : ∀ x ∈ σ.1, Lev gs vs (σ.2.getD x.toNat 0).toNat x
  mono : ∀ a b, a ≤ b → b < σ.1.length → σ.2.getD (σ.1.getD a 0).toNat 0 ≤ σ.2.getD (σ.1.getD b 0).toNat 0
  bnd : k < σ.1.length → ∀ x ∈ σ.1, σ.2.getD x.toNat 0 ≤ σ.2.getD (σ.1.getD k 0).toNat 0 + 1
  clo : ∀ a, a < k → a < σ.1.length → ∀ j, (true, j) ∈ fieldsI gs (σ.1.getD a 0) → j ∈ σ.1 ∧ σ.2.getD j.toNat 0 ≤ σ.2.getD (σ.1.getD a 0).toNat 0 + 1
  root : ∀ j, (true, j) ∈ vs → j ∈ σ.1 ∧ σ.2.getD j.toNat 0 = 0
  idx : ∀ a, a < σ.1.length → σ.2.getD (σ.1.getD a 0).toNat 0 ≤ a
/-- What a list of values adds at a distance t. -/
structure Tkn (n : Nat) (t : Int) (σ τ : List Int × List Int) : Prop where
  pre_ : σ.1 <+: τ.1
  keep : ∀ x ∈ σ.1, τ.2.getD x.toNat 0 = σ.2.getD x.toNat 0
  new : ∀ x ∈ τ.1, x ∉ σ.1 → τ.2.getD x.toNat 0 = t
theorem Tkn.refl (n : Nat) (t : Int) (σ : List Int × List Int) : Tkn n t σ σ := ⟨List.prefix_refl _, fun _ _ => rfl, fun x h h2 => absurd h h2⟩
theorem Tkn.trans {n : Nat} {t : Int} {a b c : List Int × List Int} (h : Tkn n t a b) (k : Tkn n t b c) : Tkn n t a c := by
  refine ⟨h.pre_.trans k.pre_, fun x hx => by rw [k.keep x (h.pre_.subset hx), h.keep x hx], fun x hx hn => ?_⟩
  by_cases hb : x ∈ b.1
  · rw [k.keep x hb]; exact h.new x hb hn
  · exact k.new x hx hb
theorem Tkn.one {n : Nat} {t : Int} {σ : List Int × List Int} (h : FOk n σ) {v : Val} (hv : v.1 = true → 0 ≤ v.2 ∧ v.2 < (n : Int)) : Tkn n t σ (tk1 t σ v) := by
  obtain ⟨b, x⟩ := v
  cases b with
  | false => rw [tk1_no (.inl rfl)]; exact .refl _ _ _
  | true =>
    obtain ⟨h1, h2⟩ := hv rfl
    dsimp only at h1 h2
    by_cases hx : σ.2.getD x.toNat 0 < 0
    · rw [tk1_yes hx]
      have hxl := neg_lt hx
      refine ⟨List.prefix_append _ _, fun y hy => ?_, fun y hy hn => ?_⟩
      · dsimp only
        rw [getD_set_ hxl, if_neg]
        intro e
        have h3 := h.ok.rng y hy
        have h4 := (h.there y.toNat (by omega)).2 (by rw [show ((y.toNat : Nat) : Int) = y from by omega]; exact hy)
        rw [e] at h4
        omega
      · dsimp only at hy ⊢
        rcases List.mem_append.1 hy with h3 | h3
        · exact absurd h3 hn
        · simp at h3; subst h3
          rw [getD_set_ hxl, if_pos rfl]
    · rw [tk1_no (.inr (by omega))]; exact .refl _ _ _
theorem Tkn.all {n : Nat} {t : Int} (ht : 0 ≤ t ∧ t < n + 1) (vs : List Val) : ∀ {σ : List Int × List Int}, FOk n σ → ValsOk n vs → Tkn n t σ (tkAll t vs σ) := by
  induction vs with
  | nil => intro σ _ _; exact .refl _ _ _
  | cons v vs ih =>
    intro σ h hv
    rw [tkAll_cons]
    exact (Tkn.one h (hv v (by simp))).trans (ih (h.tk1 (hv v (by simp)) ht) (fun u hu => hv u (by simp [hu])))
theorem tkn_mem {n : Nat} {t : Int} (ht : 0 ≤ t ∧ t < n + 1) (vs : List Val) {σ : List Int × List Int} (h : FOk n σ) (hv : ValsOk n vs) : (∀ x, (true, x) ∈ vs → x ∈ (tkAll t vs σ).1) ∧ (∀ x ∈ (tkAll t vs σ).1, x ∈ σ.1 ∨ (true, x) ∈ vs) := by
  have h1 := (FOk.tkAll ht vs h hv).2
  rw [h1]
  refine ⟨fun x hx => seenAll_mem _ _ _ hx rfl, ?_⟩
  clear h1 h hv
  generalize σ.1 = l
  induction vs generalizing l with
  | nil => intro x hx; exact .inl hx
  | cons v vs ih =>
    intro x hx
    rw [seenAll_cons] at hx
    rcases ih _ x hx with h | h
    · unfold seen1 at h
      split at h
      · rename_i hc
        rcases List.mem_append.1 h with h2 | h2
        · exact .inl h2
        · simp at h2; subst h2
          refine .inr ?_
          obtain ⟨b, y⟩ := v
          dsimp only at hc ⊢
          rw [hc.1]; simp
      · exact .inl h
    · exact .inr (by simp [h])
theorem getD_pre {l m : List Int} (h : l <+: m) {a : Nat} (ha : a < l.length) : m.getD a 0 = l.getD a 0 := by
  obtain ⟨r, rfl⟩ := h
  rw [List.getD_eq_getElem?_getD, List.getD_eq_getElem?_getD, List.getElem?_append_left ha]
theorem getD_mem {l : List Int} {a : Nat} (ha : a < l.length) : l.getD a 0 ∈ l := by
  rw [List.getD_eq_getElem?_getD, List.getElem?_eq_getElem ha]; exact List.getElem_mem ha
theorem getD_tail {l m : List Int} (h : l <+: m) (hn : m.Nodup) {b : Nat} (hb : l.length ≤ b) (hb2 : b < m.length) : m.getD b 0 ∉ l := by
  obtain ⟨r, rfl⟩ := h
  rw [List.getD_eq_getElem?_getD, List.getElem?_append_right hb]
  intro hm
  have hr : b - l.length < r.length := by simp at hb2; omega
  rw [List.getElem?_eq_getElem hr] at hm
  exact (List.nodup_append.1 hn).2.2 _ hm _ (List.getElem_mem hr) rfl
theorem FI.next {gs : List (List Val)} {vs : List Val} {k : Nat} {σ : List Int × List Int} (hg : ∀ fs ∈ gs, ValsOk gs.length fs) (h : FI gs vs k σ) (hk : k < σ.1.length) :
    FI gs vs (k + 1) (tkAll (σ.2.getD (σ.1.getD k 0).toNat 0 + 1) (fieldsI gs (σ.1.getD k 0)) σ) := by
  obtain ⟨x, hx⟩ : ∃ x, σ.1.getD k 0 = x := ⟨_, rfl⟩
  obtain ⟨t, ht⟩ : ∃ t, σ.2.getD x.toNat 0 + 1 = t := ⟨_, rfl⟩
  have hxm : x ∈ σ.1 := by rw [← hx]; exact getD_mem hk
  have hfl := fieldsI_ok hg x
  have hi := h.idx k hk
  have hll := h.f.ok.len
  have hnn : 0 ≤ σ.2.getD x.toNat 0 := by
    have h3 := h.f.ok.rng x hxm
    exact (h.f.there x.toNat (by omega)).2 (by rw [show ((x.toNat : Nat) : Int) = x from by omega]; exact hxm)
  have hmono := h.mono
  have hbnd := h.bnd hk
  have hlevx := h.lev x hxm
  rw [hx] at hi hbnd ⊢
  rw [ht]
  have htt : 0 ≤ t ∧ t < gs.length + 1 := by omega
  obtain ⟨h1, h2⟩ := FOk.tkAll htt (fieldsI gs x) h.f hfl
  have h3 := Tkn.all htt (fieldsI gs x) h.f hfl
  obtain ⟨h4, h5⟩ := tkn_mem htt (fieldsI gs x) h.f hfl
  generalize tkAll t (fieldsI gs x) σ = τ at *
  have hle : σ.1.length ≤ τ.1.length := h3.pre_.length_le
  have hnd := h1.ok.nodup
  have hall : ∀ y ∈ τ.1, τ.2.getD y.toNat 0 ≤ t := fun y hy => by
    by_cases hy2 : y ∈ σ.1
    · rw [h3.keep y hy2]; have := hbnd y hy2; omega
    · rw [h3.new y hy hy2]; exact Int.le_refl _
  refine ⟨h1, fun y hy => ?_, fun a b hab hb => ?_, fun hk1 y hy => ?_, fun a ha hal j hj => ?_, fun j hj => ?_, fun a ha => ?_⟩
  · by_cases hy2 : y ∈ σ.1
    · rw [h3.keep y hy2]; exact h.lev y hy2
    · rw [h3.new y hy hy2]
      rcases h5 y hy with h6 | h6
      · exact absurd h6 hy2
      · rw [show t.toNat = (σ.2.getD x.toNat 0).toNat + 1 from by omega]
        exact .step _ _ _ hlevx h6
  · by_cases hb2 : b < σ.1.length
    · rw [getD_pre h3.pre_ hb2, getD_pre h3.pre_ (show a < σ.1.length by omega), h3.keep _ (getD_mem hb2), h3.keep _ (getD_mem (by omega))]
      exact hmono a b hab hb2
    · rw [h3.new _ (getD_mem hb) (getD_tail h3.pre_ hnd (by omega) hb)]
      exact hall _ (getD_mem (by omega))
  · have hy3 := hall y hy
    by_cases hk2 : k + 1 < σ.1.length
    · rw [getD_pre h3.pre_ hk2, h3.keep _ (getD_mem hk2)]
      have := hmono k (k + 1) (by omega) hk2
      rw [hx] at this
      omega
    · rw [h3.new _ (getD_mem hk1) (getD_tail h3.pre_ hnd (by omega) hk1)]
      omega
  · by_cases e : a = k
    · subst e
      rw [getD_pre h3.pre_ hk, hx] at hj ⊢
      refine ⟨h4 j hj, ?_⟩
      rw [h3.keep x hxm, ht]
      exact hall _ (h4 j hj)
    · have hak : a < k := by omega
      have has : a < σ.1.length := by omega
      rw [getD_pre h3.pre_ has] at hj ⊢
      obtain ⟨h6, h7⟩ := h.clo a hak has j hj
      rw [h3.keep j h6, h3.keep _ (getD_mem has)]
      exact ⟨h3.pre_.subset h6, h7⟩
  · obtain ⟨h6, h7⟩ := h.root j hj
    rw [h3.keep j h6]
    exact ⟨h3.pre_.subset h6, h7⟩
  · by_cases ha2 : a < σ.1.length
    · rw [getD_pre h3.pre_ ha2, h3.keep _ (getD_mem ha2)]
      exact h.idx a ha2
    · rw [h3.new _ (getD_mem ha) (getD_tail h3.pre_ hnd (by omega) ha)]
      omega
end Go.Proofs.Ytjphckfbbiehdaa

namespace Go.Proofs.Ytjphckfbbiehdaa
open Go.RowKit
structure GOk (nO nR : Nat) (obs : List Ob) (roots : List Val) : Prop where
  nO_ : nO ≤ 24
  nR_ : nR ≤ 8
  fl : ∀ o ∈ obs, o.n ≤ 4
  len : (obs.map Ob.fields).length = nO
  vg : ∀ fs ∈ obs.map Ob.fields, ValsOk (obs.map Ob.fields).length fs
  vr : ValsOk (obs.map Ob.fields).length roots
  fs : ∀ fs ∈ obs.map Ob.fields, fs.length ≤ 4
theorem gok_of {w : World} {D : Nat → Prop} {AO : Option Addr} {nO nR : Nat} {obs : List Ob} {roots : List Val} (hO : ObsRd w D AO nO obs) (h : gcheck nO nR obs roots = 0) : GOk nO nR obs roots := by
  unfold gcheck at h
  split at h
  · omega
  rename_i h1
  split at h
  · omega
  rename_i h2
  have h3 : obs.any large = false := by
    cases h4 : obs.any large with
    | false => rfl
    | true => exact absurd (Or.inr (Or.inr h4)) h1
  have hfl : ∀ o ∈ obs, o.n ≤ 4 := fun o ho => by
    have h5 := List.any_eq_false.1 h3 o ho
    unfold large at h5
    simp at h5
    omega
  have hlen : (obs.map Ob.fields).length = nO := by rw [List.length_map]; exact hO.len
  have h4 : ∀ v ∈ allVals obs roots, v.1 = true → 0 ≤ v.2 ∧ v.2 < ((obs.map Ob.fields).length : Int) := fun v hv hv1 => by
    have h5 : (allVals obs roots).any (badArg nO) = false := by
      cases h6 : (allVals obs roots).any (badArg nO) with
      | false => rfl
      | true => exact absurd h6 h2
    have h6 := List.any_eq_false.1 h5 v hv
    unfold badArg at h6
    rw [hv1] at h6
    rw [hlen]
    simp at h6
    omega
  refine ⟨by omega, by omega, hfl, hlen, fun fs hfs v hv => ?_, fun v hv => h4 v (List.mem_append_left _ hv), fun fs hfs => ?_⟩
  · obtain ⟨o, ho, rfl⟩ := List.mem_map.1 hfs
    exact h4 v (List.mem_append_right _ (List.mem_flatMap.2 ⟨o, ho, hv⟩))
  · obtain ⟨o, ho, rfl⟩ := List.mem_map.1 hfs
    have := hO.flen ho
    have := hfl o ho
    omega
theorem graphRd_of {w : World} {D : Nat → Prop} {AO AR : Option Addr} {nO cO nR cR : Nat} {obs : List Ob} {roots : List Val} (hO : ObsRd w D AO nO obs) (hR : Rd w D 2 AR nR (vals roots)) : GraphRd w D (.agg #[.slice AO nO cO, .slice AR nR cR]) (obs.map Ob.fields) roots := ⟨AO, nO, cO, AR, nR, cR, obs, rfl, hO, rfl, hR⟩
theorem roots_len {w : World} {D : Nat → Prop} {AR : Option Addr} {nR : Nat} {roots : List Val} (hR : Rd w D 2 AR nR (vals roots)) : roots.length = nR := by have := hR.1; rw [vals_length] at this; omega
/-! ### Sorting what is found. -/
end Go.Proofs.Ytjphckfbbiehdaa

namespace Go.Proofs.Ytjphckfbbiehdaa
open Go.RowKit
theorem rm_obsRd {Bm : Nat} {s : RMem} {w : World} (hP : (rmI Bm s).P w) : ObsRd w (fun _ => True) s.Ao s.obs.length s.obs ∧ Rd w (fun _ => True) 2 (some ⟨s.gr, 0, none⟩) s.regs.length (vals s.regs) := by
  have hS := (Sep.start hP).flat
  refine ⟨⟨Rd.of_own (D := fun _ => True) (show w.ownsRow 0 119 1 (.slice s.Ao s.obs.length s.co) s.obs.length _ from hS.get 2 rfl) (fun _ _ => trivial), fun o ho => ?_⟩, Rd.of_own (D := fun _ => True) (show w.ownsRow 0 107 2 (.slice (some ⟨s.gr, 0, none⟩) s.regs.length s.cR) s.regs.length _ from hS.get 1 rfl) (fun _ _ => trivial)⟩
  have h1 : (obI o).P w := hS.all _ (by unfold rmL; simp only [List.mem_cons, List.mem_map]; exact .inr (.inr (.inr (.inr ⟨o, ho, rfl⟩))))
  exact Rd.of_own (D := fun _ => True) (show w.ownsRow 0 107 2 (.slice o.A o.n o.c) o.n _ from h1) (fun _ _ => trivial)
end Go.Proofs.Ytjphckfbbiehdaa

namespace Go.Proofs.Ytjphckfbbiehdaa
open Go.RowKit
def dosV (l : List DoV) : List Value := l.flatMap fun d => [.int .i64 d.k, .int .i64 d.to, .int .i64 d.fr, .int .i64 d.at_, .int .i64 d.n]
theorem dosV_length (l : List DoV) : (dosV l).length = l.length * 5 := by
  unfold dosV; induction l with
  | nil => rfl
  | cons a l ih => simp [List.flatMap_cons] at ih ⊢; omega
theorem dosV_at (l : List DoV) (k : Nat) (h : k < l.length) : (dosV l)[k * 5]? = some (.int .i64 l[k].k) ∧ (dosV l)[k * 5 + (0 + 1)]? = some (.int .i64 l[k].to) ∧ (dosV l)[k * 5 + (1 + 1)]? = some (.int .i64 l[k].fr) ∧ (dosV l)[k * 5 + (2 + 1)]? = some (.int .i64 l[k].at_) ∧ (dosV l)[k * 5 + (3 + 1)]? = some (.int .i64 l[k].n) := by
  unfold dosV
  induction l generalizing k with
  | nil => simp at h
  | cons a l ih =>
    cases k with
    | zero => exact ⟨rfl, rfl, rfl, rfl, rfl⟩
    | succ k =>
      have h2 := ih k (by simpa using h)
      rw [List.flatMap_cons, show (k + 1) * 5 = k * 5 + 1 + 1 + 1 + 1 + 1 from by omega]
      exact h2
theorem outsV_app (a b : List OutV) : outsV (a ++ b) = outsV a ++ outsV b := by simp [outsV]
theorem sOut : SliceT Try.prog 23 41 3 24 := SliceT.mk_ Try.underlying23 (z := .agg #[.int .i64 0, .bool false, .int .i64 0]) (by kernel_rfl) rfl (by omega)
end Go.Proofs.Ytjphckfbbiehdaa
