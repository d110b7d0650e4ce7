/- move: what Copy lays is what the reference lays; the plain part. Marks: what a marker does, by invariants; the plain part. slide: words that are marked; slots. -/
import Derived.Test.YtpbafmdebflbpaaMg16
import Derived.Test.YtpbafmdebflbpaaMg15
import Derived.Test.YtpbafmdebflbpaaMg13
import Derived.Test.YtpbafmdebflbpaaMg14
namespace Go.Proofs.Ytpbafmdebflbpaa
open Go.RowKit Go.Maps

/-! ### Words of an arena as values and back. -/
theorem unN_pack (x : Int) (h0 : 0 ≤ x) (h1 : x ≤ 18446744073709551615) (h2 : x % 2 = 1) : packA false (unN x) = x := by
  have hb : -4611686018427387904 ≤ unN x ∧ unN x ≤ 4611686018427387903 := by unfold unN; split <;> omega
  unfold packA
  rw [if_neg (by simp), if_pos hb]
  unfold packN unN
  split <;> omega
theorem good_vals {nW : Nat} {ws : List Int} {xs : List Int} (h : ∀ x ∈ xs, GoodW (parse nW ws 0).1 x) : ValsOk (parse nW ws 0).1.length (xs.map (turnW (ixOf (parse nW ws 0).1))) := by
  intro v hv h1
  obtain ⟨x, hx, rfl⟩ := List.mem_map.1 hv
  have hr : unR x = true := h1
  have := ((h x hx).ref hr).2.2.2.2
  unfold turnW
  rw [hr]
  dsimp only
  rw [if_pos rfl]
  omega
/-- A word as it is laid when objects are numbered by a list is the word as it moves. -/
theorem pack_trans {nW : Nat} {ws L : List Int} {x : Int} (at_ : List Int) (hw : ∀ x ∈ ws, 0 ≤ x) (hl : ws.length ≤ 256) (hx : GoodW (parse nW ws 0).1 x) (hO : OrdOk (parse nW ws 0).1.length L) (hat : ∀ k, k < L.length → at_[k]? = some (sumO (parse nW ws 0).1 (L.take k) : Int)) (hin : unR x = true → (ixOf (parse nW ws 0).1 (unA x) : Int) ∈ L) :
    packV at_ (turnL L (turnW (ixOf (parse nW ws 0).1) x)) = transW (parse nW ws 0).1 L x := by
  unfold packV turnL transW turnW
  cases hr : unR x with
  | false =>
    simp only [Bool.false_eq_true, if_false]
    have hn := hx.num hr
    have ha : unA x = unN x := by unfold unA; rw [if_pos hn]
    rw [ha]
    exact unN_pack x hx.lo hx.hi hn
  | true =>
    have hi := hin hr
    have hlt := newAt_lt hw hO hi
    have hidx : L.idxOf (ixOf (parse nW ws 0).1 (unA x) : Int) < L.length := List.idxOf_lt_length_of_mem hi
    simp only [if_true]
    rw [show placeN L (ixOf (parse nW ws 0).1 (unA x) : Int) = L.idxOf (ixOf (parse nW ws 0).1 (unA x) : Int) from if_pos hi]
    rw [show ((L.idxOf (ixOf (parse nW ws 0).1 (unA x) : Int) : Nat) : Int).toNat = L.idxOf (ixOf (parse nW ws 0).1 (unA x) : Int) from by omega]
    rw [List.getD_eq_getElem?_getD, hat _ hidx]
    unfold packA
    rw [if_pos rfl, Option.getD_some]
    have e : (sumO (parse nW ws 0).1 (L.take (L.idxOf (ixOf (parse nW ws 0).1 (unA x) : Int))) : Int) = (newAt (parse nW ws 0).1 L (ixOf (parse nW ws 0).1 (unA x) : Int) : Int) := rfl
    rw [e, if_pos (by omega)]

theorem fieldsI_graph {nW : Nat} {ws : List Int} {i : Int} (h0 : 0 ≤ i) (h1 : i < (parse nW ws 0).1.length) : fieldsI (graphOf ws (parse nW ws 0).1) i = ((ws.drop (plc (parse nW ws 0).1 i + 1)).take (lenO (parse nW ws 0).1 i)).map (turnW (ixOf (parse nW ws 0).1)) := by
  generalize (parse nW ws 0).1 = pre at *
  have hil : i.toNat < pre.length := by omega
  have hpi : pre.getD i.toNat (0, 0) = pre[i.toNat] := by rw [List.getD_eq_getElem?_getD, List.getElem?_eq_getElem hil]; rfl
  unfold fieldsI graphOf plc lenO fieldsAt
  rw [List.getD_eq_getElem?_getD, List.getElem?_map, List.getElem?_eq_getElem hil, hpi]
  rfl
theorem renum_at {nW : Nat} {ws L : List Int} (hw : ∀ x ∈ ws, 0 ≤ x) (hO : ∀ i ∈ L, 0 ≤ i ∧ i < ((parse nW ws 0).1.length : Int)) (k : Nat) (hk : k < L.length) : (atF (renumF (graphOf ws (parse nW ws 0).1) L))[k]? = some (sumO (parse nW ws 0).1 (L.take k) : Int) := by
  have key : ∀ l : List Int, (∀ i ∈ l, 0 ≤ i ∧ i < ((parse nW ws 0).1.length : Int)) → ((l.map fun x => (fieldsI (graphOf ws (parse nW ws 0).1) x).map (turnL L)).map fun f => (1 : Int) + (f.length : Int)).sum = (sumO (parse nW ws 0).1 l : Int) := by
    intro l hl
    induction l with
    | nil => rfl
    | cons a l ih =>
      obtain ⟨a0, a1⟩ := hl a (by simp)
      have ih := ih (fun i hi => hl i (by simp [hi]))
      obtain ⟨g1, _, _, _, g5⟩ := rawO_len (nW := nW) (o := 1) hw a0 a1
      unfold rawO at g1
      unfold sumO at *
      simp only [List.map_cons, List.sum_cons] at ih ⊢
      rw [ih, fieldsI_graph a0 a1]
      simp only [List.length_map, List.length_cons] at g1 ⊢
      omega
  unfold atF
  rw [List.getElem?_map, List.getElem?_range (by unfold renumF; rw [List.length_map]; exact hk)]
  simp only [Option.map_some]
  unfold renumF
  rw [← List.map_take, key _ (fun i hi => hO i (List.mem_of_mem_take hi))]
theorem zip_map_map {α β γ : Type} (f : α → β) (g : α → γ) (l : List α) : (l.map f).zip (l.map g) = l.map fun a => (f a, g a) := by
  induction l with
  | nil => rfl
  | cons a l ih => simp [ih]

theorem flatMap_congr2 {α β : Type} {l : List α} {f g : α → List β} (h : ∀ a ∈ l, f a = g a) : l.flatMap f = l.flatMap g := by
  induction l with
  | nil => rfl
  | cons a l ih => rw [List.flatMap_cons, List.flatMap_cons, h a (by simp), ih (fun b hb => h b (by simp [hb]))]

theorem move_words {nW : Nat} {ws L : List Int} (o : Int) (hw : ∀ x ∈ ws, 0 ≤ x) (hl : ws.length ≤ 256) (hgood : ∀ x ∈ fieldsOf ws (parse nW ws 0).1, GoodW (parse nW ws 0).1 x) (hO : OrdOk (parse nW ws 0).1.length L)
    (hcl : ∀ x ∈ L, ∀ v ∈ fieldsI (graphOf ws (parse nW ws 0).1) x, v.1 = true → v.2 ∈ L) :
    layW (renumF (graphOf ws (parse nW ws 0).1) L) (headsAt (headsL ws (parse nW ws 0).1) L o) = L.flatMap fun i => (headW (older o (headOf (ws.getD (plc (parse nW ws 0).1 i) 0))).1 false (older o (headOf (ws.getD (plc (parse nW ws 0).1 i) 0))).2.2) :: ((ws.drop (plc (parse nW ws 0).1 i + 1)).take (lenO (parse nW ws 0).1 i)).map (transW (parse nW ws 0).1 L) := by
  have hat := renum_at (nW := nW) hw hO.rng
  unfold layW
  generalize hA : atF (renumF (graphOf ws (parse nW ws 0).1) L) = A at *
  unfold renumF headsAt
  rw [zip_map_map, List.flatMap_map]
  refine flatMap_congr2 fun i hi => ?_
  obtain ⟨i0, i1⟩ := hO.rng i hi
  have hil : i.toNat < (parse nW ws 0).1.length := by omega
  have hh : (headsL ws (parse nW ws 0).1).getD i.toNat (0, false, 0) = headOf (ws.getD (plc (parse nW ws 0).1 i) 0) := by
    unfold headsL plc
    simp [List.getD_eq_getElem?_getD, List.getElem?_eq_getElem hil]
  dsimp only
  rw [hh, fieldsI_graph i0 i1, List.map_map, List.map_map]
  congr 1
  refine List.map_congr_left fun x hx => ?_
  have hpi : (parse nW ws 0).1.getD i.toNat (0, 0) = (parse nW ws 0).1[i.toNat] := by rw [List.getD_eq_getElem?_getD, List.getElem?_eq_getElem hil]; rfl
  have hx2 : GoodW (parse nW ws 0).1 x := hgood x (List.mem_flatMap.2 ⟨(parse nW ws 0).1[i.toNat], List.getElem_mem hil, by
    rw [← hpi]; exact hx⟩)
  refine pack_trans A hw hl hx2 hO hat (fun hr => ?_)
  have := hcl i hi (turnW (ixOf (parse nW ws 0).1) x) (by rw [fieldsI_graph i0 i1]; exact List.mem_map.2 ⟨x, hx, rfl⟩) hr
  unfold turnW at this
  rw [hr] at this
  simpa using this
end Go.Proofs.Ytpbafmdebflbpaa

namespace Go.Proofs.Ytpbafmdebflbpaa
open Go.RowKit

structure MSt where
  S : Nat → Bool
  st : List Nat
  lost : Bool
def vis (pre : List (Nat × Nat)) (R : Nat) (σ : MSt) (x : Int) : MSt :=
  if unR x = true ∧ σ.S (ixOf pre (unA x)) = false then
    if σ.st.length = R then ⟨addS σ.S (ixOf pre (unA x)) true, σ.st, true⟩ else ⟨addS σ.S (ixOf pre (unA x)) true, σ.st ++ [ixOf pre (unA x)], σ.lost⟩
  else σ
def unm : Nat → (Nat → Bool) → Nat
  | 0, _ => 0
  | n + 1, S => unm n S + if S n = true then 0 else 1
theorem unm_congr {S T : Nat → Bool} : ∀ {n : Nat}, (∀ i, i < n → S i = T i) → unm n S = unm n T
  | 0, _ => rfl
  | n + 1, h => by unfold unm; rw [unm_congr (n := n) (fun i hi => h i (by omega)), h n (by omega)]
theorem unm_add {S : Nat → Bool} {r : Nat} (hr : S r = false) : ∀ {n : Nat}, r < n → unm n (addS S r true) + 1 = unm n S
  | 0, h => by omega
  | n + 1, h => by
    unfold unm
    by_cases e : r = n
    · subst e
      rw [unm_congr (S := addS S r true) (T := S) (fun i hi => by unfold addS; rw [if_neg (by omega)]), hr]
      simp [addS]
    · have := unm_add hr (n := n) (by omega)
      rw [show addS S r true n = S n from by unfold addS; rw [if_neg (fun h => e h.symm)]]
      omega
def Clo (ws : List Int) (pre : List (Nat × Nat)) (S : Nat → Bool) (i : Nat) : Prop := ∀ x ∈ fldN ws pre i, unR x = true → S (ixOf pre (unA x)) = true
structure MOk (ws : List Int) (pre : List (Nat × Nat)) (gs : List (List Val)) (vs : List Val) (R : Nat) (X : Nat → Prop) (σ : MSt) : Prop where
  sound : ∀ i, i < pre.length → σ.S i = true → ∃ k, Lev gs vs k (i : Int)
  stk : ∀ i ∈ σ.st, i < pre.length ∧ σ.S i = true
  room : σ.st.length ≤ R
  clo : σ.lost = false → ∀ i, i < pre.length → σ.S i = true → X i → i ∈ σ.st ∨ Clo ws pre σ.S i
structure Gro (n : Nat) (σ τ : MSt) : Prop where
  mono : ∀ i, σ.S i = true → τ.S i = true
  meas : 2 * unm n τ.S + τ.st.length ≤ 2 * unm n σ.S + σ.st.length
  unm_ : unm n τ.S ≤ unm n σ.S
  lost : τ.lost = true → σ.lost = true ∨ unm n τ.S < unm n σ.S
theorem Gro.refl (n : Nat) (σ : MSt) : Gro n σ σ := ⟨fun _ h => h, Nat.le_refl _, Nat.le_refl _, fun h => .inl h⟩
theorem Gro.trans {n : Nat} {a b c : MSt} (h : Gro n a b) (k : Gro n b c) : Gro n a c := ⟨fun i hi => k.mono i (h.mono i hi), by have := h.meas; have := k.meas; omega, by have := h.unm_; have := k.unm_; omega, fun hc => by
  have h1 := h.unm_
  have h2 := k.unm_
  rcases k.lost hc with h3 | h3
  · rcases h.lost h3 with h4 | h4
    · exact .inl h4
    · exact .inr (by omega)
  · exact .inr (by omega)⟩
section
variable {ws : List Int} {pre : List (Nat × Nat)} {gs : List (List Val)} {vs : List Val} {R : Nat} {X : Nat → Prop} {σ τ : MSt} {x : Int}
theorem Clo.mono {S T : Nat → Bool} {i : Nat} (h : Clo ws pre S i) (hm : ∀ i, S i = true → T i = true) : Clo ws pre T i := fun x hx hr => hm _ (h x hx hr)
theorem vis_no (h : unR x = false ∨ σ.S (ixOf pre (unA x)) = true) : vis pre R σ x = σ := by
  unfold vis
  rw [if_neg]
  rintro ⟨h1, h2⟩
  rcases h with h | h
  · rw [h] at h1; cases h1
  · rw [h] at h2; cases h2
theorem vis_full (h1 : unR x = true) (h2 : σ.S (ixOf pre (unA x)) = false) (h3 : σ.st.length = R) : vis pre R σ x = ⟨addS σ.S (ixOf pre (unA x)) true, σ.st, true⟩ := by
  unfold vis; rw [if_pos ⟨h1, h2⟩, if_pos h3]
theorem vis_push (h1 : unR x = true) (h2 : σ.S (ixOf pre (unA x)) = false) (h3 : σ.st.length ≠ R) : vis pre R σ x = ⟨addS σ.S (ixOf pre (unA x)) true, σ.st ++ [ixOf pre (unA x)], σ.lost⟩ := by
  unfold vis; rw [if_pos ⟨h1, h2⟩, if_neg h3]
theorem addS_mono (S : Nat → Bool) (r i : Nat) (h : S i = true) : addS S r true i = true := by unfold addS; split <;> simp [h]
theorem addS_self (S : Nat → Bool) (r : Nat) (b : Bool) : addS S r b r = b := by unfold addS; rw [if_pos rfl]
theorem addS_or {S : Nat → Bool} {r i : Nat} (h : addS S r true i = true) : i = r ∨ S i = true := by
  unfold addS at h
  split at h
  · exact .inl (by assumption)
  · exact .inr h
theorem MOk.vis (h : MOk ws pre gs vs R X σ) (hx : GoodW pre x) (hl : unR x = true → ∃ k, Lev gs vs k (ixOf pre (unA x) : Int)) : MOk ws pre gs vs R X (vis pre R σ x) ∧ Gro pre.length σ (vis pre R σ x) ∧ (unR x = true → (Go.Proofs.Ytpbafmdebflbpaa.vis pre R σ x).S (ixOf pre (unA x)) = true) := by
  cases hr : unR x with
  | false => rw [vis_no (.inl hr)]; exact ⟨h, .refl _ _, fun h => by cases h⟩
  | true =>
    have hlt := (hx.ref hr).2.2.2.2
    cases hs : σ.S (ixOf pre (unA x)) with
    | true => rw [vis_no (.inr hs)]; exact ⟨h, .refl _ _, fun _ => hs⟩
    | false =>
      have hu := unm_add hs hlt
      by_cases hf : σ.st.length = R
      · rw [vis_full hr hs hf]
        refine ⟨⟨fun i hi h1 => ?_, fun i hi => ⟨(h.stk i hi).1, addS_mono _ _ _ (h.stk i hi).2⟩, h.room, fun h1 => by cases h1⟩, ⟨addS_mono _ _, by dsimp only; omega, by dsimp only; omega, fun _ => .inr (by dsimp only; omega)⟩, fun _ => addS_self _ _ _⟩
        rcases addS_or h1 with rfl | h2
        · exact hl hr
        · exact h.sound i hi h2
      · rw [vis_push hr hs hf]
        have hroom := h.room
        refine ⟨⟨fun i hi h1 => ?_, fun i hi => ?_, by simp; omega, fun h1 i hi h2 hX => ?_⟩, ⟨addS_mono _ _, by simp; omega, by dsimp only; omega, fun h => .inl h⟩, fun _ => addS_self _ _ _⟩
        · rcases addS_or h1 with rfl | h2
          · exact hl hr
          · exact h.sound i hi h2
        · rcases List.mem_append.1 hi with h1 | h1
          · exact ⟨(h.stk i h1).1, addS_mono _ _ _ (h.stk i h1).2⟩
          · simp at h1; subst h1; exact ⟨hlt, addS_self _ _ _⟩
        · rcases addS_or h2 with rfl | h3
          · exact .inl (by simp)
          · rcases h.clo h1 i hi h3 hX with h4 | h4
            · exact .inl (by simp [h4])
            · exact .inr (h4.mono (addS_mono _ _))
/-- An object is taken from the stack. -/
theorem MOk.pop (h : MOk ws pre gs vs R X σ) (i : Nat) (st : List Nat) (e : σ.st = st ++ [i]) : MOk ws pre gs vs R (fun j => X j ∧ j ≠ i) ⟨σ.S, st, σ.lost⟩ := by
  refine ⟨h.sound, fun j hj => h.stk j (by rw [e]; simp [hj]), by have := h.room; rw [e] at this; simp at this; dsimp only; omega, fun h1 j hj h2 hX => ?_⟩
  rcases h.clo h1 j hj h2 hX.1 with h3 | h3
  · rw [e] at h3
    rcases List.mem_append.1 h3 with h4 | h4
    · exact .inl h4
    · simp at h4; exact absurd h4 hX.2
  · exact .inr h3
/-- All its fields are gone through. -/
theorem MOk.done {i : Nat} (h : MOk ws pre gs vs R (fun j => X j ∧ j ≠ i) σ) (hc : Clo ws pre σ.S i) : MOk ws pre gs vs R X σ :=
  ⟨h.sound, h.stk, h.room, fun h1 j hj h2 hX => by
    by_cases e : j = i
    · subst e; exact .inr hc
    · exact h.clo h1 j hj h2 ⟨hX, e⟩⟩
theorem MOk.weak {Y : Nat → Prop} (h : MOk ws pre gs vs R X σ) (hy : ∀ i, i < pre.length → σ.S i = true → Y i → X i) : MOk ws pre gs vs R Y σ :=
  ⟨h.sound, h.stk, h.room, fun h1 j hj h2 hX => h.clo h1 j hj h2 (hy j hj h2 hX)⟩
theorem MOk.start (ws : List Int) (pre : List (Nat × Nat)) (gs : List (List Val)) (vs : List Val) (R : Nat) (X : Nat → Prop) : MOk ws pre gs vs R X ⟨fun _ => false, [], false⟩ :=
  ⟨fun i _ h => (by cases h), by simp, by simp, fun _ i _ h => (by cases h)⟩
theorem MOk.again (h : MOk ws pre gs vs R X σ) (_he : σ.st = []) : MOk ws pre gs vs R (fun i => i < 0) ⟨σ.S, [], false⟩ :=
  ⟨h.sound, by simp, by simp, fun _ j _ _ hX => absurd hX (by omega)⟩
end

/-- In the end what is marked is what can be come to. -/
theorem marks_reach {nW : Nat} {ws : List Int} {rs : List Int} {R : Nat} {σ : MSt} (hgr : ∀ x ∈ rs, GoodW (parse nW ws 0).1 x) (hgf : ∀ x ∈ fieldsOf ws (parse nW ws 0).1, GoodW (parse nW ws 0).1 x)
    (h : MOk ws (parse nW ws 0).1 (graphOf ws (parse nW ws 0).1) (rs.map (turnW (ixOf (parse nW ws 0).1))) R (fun _ => True) σ) (hl : σ.lost = false) (he : σ.st = []) (hr : ∀ x ∈ rs, unR x = true → σ.S (ixOf (parse nW ws 0).1 (unA x)) = true) (i : Nat) (hi : i < (parse nW ws 0).1.length) :
    σ.S i = decide ((i : Int) ∈ reachR (graphOf ws (parse nW ws 0).1) (rs.map (turnW (ixOf (parse nW ws 0).1)))) := by
  have hgl : (graphOf ws (parse nW ws 0).1).length = (parse nW ws 0).1.length := by unfold graphOf; rw [List.length_map]
  have hvg : ∀ fs ∈ graphOf ws (parse nW ws 0).1, ValsOk (graphOf ws (parse nW ws 0).1).length fs := by
    rw [hgl]
    intro fs hfs
    obtain ⟨p, hp, rfl⟩ := List.mem_map.1 hfs
    exact good_vals fun x hx => hgf x (List.mem_flatMap.2 ⟨p, hp, hx⟩)
  have hvr : ValsOk (graphOf ws (parse nW ws 0).1).length (rs.map (turnW (ixOf (parse nW ws 0).1))) := by rw [hgl]; exact good_vals hgr
  have key : ∀ (k : Nat) (z : Int), Lev (graphOf ws (parse nW ws 0).1) (rs.map (turnW (ixOf (parse nW ws 0).1))) k z → 0 ≤ z ∧ z < ((parse nW ws 0).1.length : Int) ∧ σ.S z.toNat = true := by
    intro k z hz
    induction hz with
    | root z hz =>
      obtain ⟨x, hx, hxz⟩ := List.mem_map.1 hz
      have hu : unR x = true := by have := congrArg Prod.fst hxz; exact this
      have hzz : (ixOf (parse nW ws 0).1 (unA x) : Int) = z := by
        have := congrArg Prod.snd hxz
        unfold turnW at this
        rw [hu] at this
        simpa using this
      have hlt := ((hgr x hx).ref hu).2.2.2.2
      refine ⟨by omega, by omega, ?_⟩
      rw [← hzz]
      exact hr x hx hu
    | step k y z hy hz ih =>
      obtain ⟨i1, i2, i3⟩ := ih
      rw [fieldsI_graph i1 i2] at hz
      obtain ⟨x, hx, hxz⟩ := List.mem_map.1 hz
      have hu : unR x = true := by have := congrArg Prod.fst hxz; exact this
      have hzz : (ixOf (parse nW ws 0).1 (unA x) : Int) = z := by
        have := congrArg Prod.snd hxz
        unfold turnW at this
        rw [hu] at this
        simpa using this
      have hil : y.toNat < (parse nW ws 0).1.length := by omega
      have hxf : x ∈ fldN ws (parse nW ws 0).1 y.toNat := hx
      have hx2 : GoodW (parse nW ws 0).1 x := hgf x (List.mem_flatMap.2 ⟨(parse nW ws 0).1[y.toNat], List.getElem_mem hil, by
        have e : (parse nW ws 0).1.getD y.toNat (0, 0) = (parse nW ws 0).1[y.toNat] := by rw [List.getD_eq_getElem?_getD, List.getElem?_eq_getElem hil]; rfl
        rw [← e]; exact hx⟩)
      have hlt := (hx2.ref hu).2.2.2.2
      refine ⟨by omega, by omega, ?_⟩
      rw [← hzz]
      rcases h.clo hl y.toNat hil i3 trivial with h4 | h4
      · rw [he] at h4; simp at h4
      · exact h4 x hxf hu
  have hm := mem_reachR hvg hvr (i : Int)
  cases hs : σ.S i with
  | true =>
    symm
    rw [decide_eq_true_eq, hm]
    exact h.sound i hi hs
  | false =>
    symm
    rw [decide_eq_false_iff_not, hm]
    rintro ⟨k, hk⟩
    have := (key k _ hk).2.2
    rw [show ((i : Int)).toNat = i from by omega, hs] at this
    cases this

end Go.Proofs.Ytpbafmdebflbpaa

namespace Go.Proofs.Ytpbafmdebflbpaa
open Go.RowKit Go.Maps

theorem parse_same (f : Nat) : ∀ (ws vs : List Int) (a : Nat), vs.length = ws.length → (parse f ws a).2 = true → (∀ p ∈ (parse f ws a).1, unheadOK (vs.getD p.1 0) ∧ hLen (vs.getD p.1 0) = hLen (ws.getD p.1 0)) → parse f vs a = parse f ws a := by
  induction f with
  | zero => intro ws vs a hl _ _; unfold parse; rw [hl]
  | succ f ih =>
    intro ws vs a hl h2 h
    unfold parse at h2 h ⊢
    rw [hl]
    by_cases h1 : a < ws.length
    · rw [if_pos h1] at h2 h ⊢
      by_cases h3 : unheadOK (ws.getD a 0) ∧ hLen (ws.getD a 0) < (ws.length : Int) - a
      · rw [if_pos h3] at h2 h ⊢
        obtain ⟨g1, g2⟩ := h (a, (hLen (ws.getD a 0)).toNat) (by simp)
        dsimp only at g1 g2
        rw [g2, if_pos h1, if_pos ⟨g1, h3.2⟩]
        rw [ih ws vs (a + 1 + (hLen (ws.getD a 0)).toNat) hl h2 (fun p hp => h p (List.mem_cons_of_mem _ hp))]
      · rw [if_neg h3] at h2
        cases h2
    · rw [if_neg h1, if_neg h1]
section
variable {nW : Nat} {ws : List Int}
theorem mk_head (h : ArnOk nW ws) (S : Nat → Bool) {k : Nat} (hk : k < (parse nW ws 0).1.length) : (mkW ws (parse nW ws 0).1 S).getD (plcN (parse nW ws 0).1 k) 0 = headW (lenN (parse nW ws 0).1 k) (S k) (ageN ws (parse nW ws 0).1 k) := by
  rw [List.getD_eq_getElem?_getD, h.head hk S]; rfl
theorem mk_parts (h : ArnOk nW ws) (S : Nat → Bool) {k : Nat} (hk : k < (parse nW ws 0).1.length) : hLen ((mkW ws (parse nW ws 0).1 S).getD (plcN (parse nW ws 0).1 k) 0) = (lenN (parse nW ws 0).1 k : Int) ∧ hMark ((mkW ws (parse nW ws 0).1 S).getD (plcN (parse nW ws 0).1 k) 0) = S k ∧ hAge ((mkW ws (parse nW ws 0).1 S).getD (plcN (parse nW ws 0).1 k) 0) = ageN ws (parse nW ws 0).1 k ∧ unheadOK ((mkW ws (parse nW ws 0).1 S).getD (plcN (parse nW ws 0).1 k) 0) := by
  obtain ⟨_, _, _, _, h4, h5, h6⟩ := h.obj hk
  rw [mk_head h S hk]
  have := head_parts_ (len := (lenN (parse nW ws 0).1 k : Int)) (by omega) (by omega) h5 h6 (S k)
  exact ⟨this.1, this.2.1, this.2.2.1, this.2.2.2.1⟩
theorem mk_parse (h : ArnOk nW ws) (S : Nat → Bool) : parse nW (mkW ws (parse nW ws 0).1 S) 0 = parse nW ws 0 := by
  refine parse_same nW ws _ 0 (by rw [h.length, h.len]) h.ok fun p hp => ?_
  obtain ⟨k, hk, rfl⟩ := List.mem_iff_getElem.1 hp
  obtain ⟨_, _, h3, _⟩ := h.obj hk
  obtain ⟨g1, _, _, g4⟩ := mk_parts h S hk
  have e := plc_get hk
  rw [e]
  exact ⟨g4, g1.trans h3.symm⟩
theorem mk_ok (h : ArnOk nW ws) (S : Nat → Bool) : ArnOk nW (mkW ws (parse nW ws 0).1 S) := by
  refine ⟨h.length S, h.max, fun x hx => ?_, by rw [mk_parse h S]; exact h.ok⟩
  unfold mkW at hx
  obtain ⟨i, hi, hx⟩ := List.mem_flatMap.1 hx
  have hi' := List.mem_range.1 hi
  unfold mkB at hx
  rcases List.mem_cons.1 hx with rfl | hx
  · exact (h.ofRange hi' S).1
  · exact h.pos x (List.mem_of_mem_drop (List.mem_of_mem_take hx))
theorem mk_fld (h : ArnOk nW ws) (S : Nat → Bool) {k : Nat} (hk : k < (parse nW ws 0).1.length) : ((mkW ws (parse nW ws 0).1 S).drop (plcN (parse nW ws 0).1 k + 1)).take (lenN (parse nW ws 0).1 k) = fldN ws (parse nW ws 0).1 k := by
  refine List.ext_getElem? fun j => ?_
  by_cases hj : j < lenN (parse nW ws 0).1 k
  · rw [List.getElem?_take, if_pos hj, List.getElem?_drop, h.field hk hj S]
  · rw [List.getElem?_take, if_neg hj, List.getElem?_eq_none (by rw [h.fld hk]; omega)]
theorem mk_wf (h : ArnOk nW ws) (hwf : ∀ x ∈ ws, 0 ≤ x ∧ x ≤ 18446744073709551615) (S : Nat → Bool) : ∀ x ∈ mkW ws (parse nW ws 0).1 S, 0 ≤ x ∧ x ≤ 18446744073709551615 := by
  intro x hx
  unfold mkW at hx
  obtain ⟨i, hi, hx⟩ := List.mem_flatMap.1 hx
  unfold mkB at hx
  rcases List.mem_cons.1 hx with rfl | hx
  · exact h.ofRange (List.mem_range.1 hi) S
  · exact hwf x (List.mem_of_mem_drop (List.mem_of_mem_take hx))
end
/-- The marked ones of the first k, in order. -/
def mkd (S : Nat → Bool) (k : Nat) : List Int := ((List.range k).filter S).map fun (i : Nat) => (i : Int)
theorem mkd_succ (S : Nat → Bool) (k : Nat) : mkd S (k + 1) = mkd S k ++ if S k = true then [(k : Int)] else [] := by
  unfold mkd
  rw [List.range_succ, List.filter_append, List.map_append]
  congr 1
  cases h : S k <;> simp [h]
theorem mkd_mem {S : Nat → Bool} {k : Nat} {x : Int} (h : x ∈ mkd S k) : ∃ i : Nat, i < k ∧ x = (i : Int) ∧ S i = true := by
  unfold mkd at h
  obtain ⟨i, hi, rfl⟩ := List.mem_map.1 h
  obtain ⟨h1, h2⟩ := List.mem_filter.1 hi
  exact ⟨i, List.mem_range.1 h1, rfl, h2⟩
theorem mkd_new (S : Nat → Bool) (k : Nat) : (k : Int) ∉ mkd S k := fun h => by
  obtain ⟨i, hi, e, _⟩ := mkd_mem h
  omega
theorem mkd_ok (S : Nat → Bool) (n k : Nat) (hk : k ≤ n) : OrdOk n (mkd S k) := by
  refine ⟨?_, fun x hx => ?_⟩
  · unfold mkd
    rw [List.nodup_iff_pairwise_ne, List.pairwise_map]
    exact (List.Pairwise.filter _ List.nodup_range).imp (fun h e => h (by omega))
  · obtain ⟨i, hi, rfl, _⟩ := mkd_mem hx
    omega

def SlI (bn bm b nn : Nat) (D : DataW Unit) (nx : Nat) : List Item := [mapJ b nn D, blkI bm 117 #[.map (some b)], blkI bn 3 #[.int .i64 nx]]
set_option maxRecDepth 100000 in
set_option maxHeartbeats 4000000 in
theorem slots1_no (w : World) (bn bm b nn nx : Nat) (D : DataW Unit) (at_ len : Nat) (age : Int) (hs : (allI (SlI bn bm b nn D nx)).P w) :
    Calls Try.prog 116 #[.int .i64 at_, .agg #[.int .i64 len, .bool false, .int .i64 age], .pointer (some ⟨bn, 0, none⟩), .pointer (some ⟨bm, 0, none⟩)] w fun e w' => e = .returned (.bool true) ∧
      Sep (allI (SlI bn bm b nn D nx)).fp w w' [allI (SlI bn bm b nn D nx)] := by
  have HS := hide (Sep.start hs)
  clear hs
  go_enter Try.func116, Try.ntmps116
  go_wp2_with fail
  go_ret
  exact ⟨rfl, HS.out.alloc _⟩
set_option maxRecDepth 100000 in
set_option maxHeartbeats 4000000 in
theorem slots1_yes (w : World) (bn bm b nn nx : Nat) (D : DataW Unit) (at_ len : Nat) (age : Int) (hs : (allI (SlI bn bm b nn D nx)).P w) (hat : at_ ≤ 256) (hnx : nx ≤ 1000) (hl : len ≤ 4) (hnn : nn ≤ 256) :
    Calls Try.prog 116 #[.int .i64 at_, .agg #[.int .i64 len, .bool true, .int .i64 age], .pointer (some ⟨bn, 0, none⟩), .pointer (some ⟨bm, 0, none⟩)] w fun e w' => e = .returned (.bool true) ∧
      Sep (allI (SlI bn bm b nn D nx)).fp w w' [allI (SlI bn bm b (nn + 1) (D.put (.int .i64 at_) (.lit (.int .i64 nx))) (nx + (1 + len)))] := by
  obtain ⟨F, hF⟩ : ∃ F, (allI (SlI bn bm b nn D nx)).fp = F := ⟨_, rfl⟩
  have hS := (Sep.start hs).flat
  rw [hF] at hS ⊢
  clear hF hs
  have hS1 := hS.blkAt 23 #[.int .i64 len, .bool true, .int .i64 age] rfl
  have hown : (w.alloc (.cells #[.int .i64 len, .bool true, .int .i64 age] 23)).ownsMap Try.prog 3 (plainElem Try.prog 3) b nn D := hS1.get 0 rfl
  obtain ⟨m1, m2, m3, m4⟩ := hS.rules 1 (g := bm) (t := 117) rfl
  have m5 : w.cell? ⟨bm, 0, none⟩ = some (.map (some b)) := by rw [m1]; rfl
  obtain ⟨n1, n2, n3, n4⟩ := hS.rules 2 (g := bn) (t := 3) rfl
  have n5 : w.cell? ⟨bn, 0, none⟩ = some (.int .i64 nx) := by rw [n1]; rfl
  have hwf1 : (Lit.int .i64 (at_ : Int)).wf = true := WalkArith.wf_i64 (by omega)
  have hwf2 : (Lit.int .i64 (nx : Int)).wf = true := WalkArith.wf_i64 (by omega)
  have HS1 := hide hS1
  clear m1 n1 hS hS1
  go_enter Try.func116, Try.ntmps116
  go_wp2_with (first
    | (at_mapUpdate
       refine wpList_mapUpdate_own _ rfl _ _ _ 117 rfl 3 3 (int_keyed Try.underlying3) Try.underlying117 _ b nn _ rfl hown (by unfold maxLen; omega) _ _ _ rfl rfl (keyOf_int_mk Try.underlying3 hwf1) _ [] (plainElem_int Try.underlying3 hwf2) ?_
       intro w1 hown1 hgrow1
       have hS2 := HS1.out.step 0 rfl ((Chg.of_grown hgrow1).mono (fun g hx => .inl (by injection hx with hx; exact hx.symm))) (mapJ b (nn + 1) (D.put (.int .i64 at_) (.lit (.int .i64 nx)))) hown1 (fun g hg => .inl hg)
       obtain ⟨h1, h2, h3, h4⟩ := hS2.rules 3 (g := w.heap.size) (t := 23) rfl
       (have h5 : w1.cell? ⟨w.heap.size, 0, none⟩ = some (.int .i64 len) := by rw [h1]; rfl)
       obtain ⟨j1, j2, j3, j4⟩ := hS2.rules 2 (g := bn) (t := 3) rfl
       (have j5 : w1.cell? ⟨bn, 0, none⟩ = some (.int .i64 nx) := by rw [j1]; rfl)
       clear h1 j1 hgrow1 hown1))
  have hS3 := hS2.set_ 2 (g := bn) (t := 3) rfl 0 (.int .i64 ((nx + (1 + len) : Nat) : Int))
  have hS4 := (hS3.sub (l := SlI bn bm b (nn + 1) (D.put (.int .i64 at_) (.lit (.int .i64 nx))) (nx + (1 + len))) (by simp [SlI])).fold
  go_ret
  first
    | exact ⟨rfl, hS4⟩
    | (have e8 : ((nx + (1 + len) : Nat) : Int) = (nx : Int) + (1 + (len : Int)) := by omega
       rw [e8] at hS4
       exact ⟨rfl, hS4⟩)
end Go.Proofs.Ytpbafmdebflbpaa
