/- move: what Copy lays is what the reference lays; the plain part. -/
import Derived.Test.YtpbafmdebflbpaaMvF
namespace Go.Proofs.Ytpbafmdebflbpaa
open Go.RowKit Go.Maps

theorem seen1_mem (l : List Int) (v : Val) (h : v.1 = true) : v.2 ∈ seen1 l v := by
  unfold seen1
  by_cases h2 : v.2 ∈ l
  · rw [if_neg (by rintro ⟨_, h3⟩; exact h3 h2)]; exact h2
  · rw [if_pos ⟨h, h2⟩]; simp
theorem seenAll_mem (vs : List Val) : ∀ (l : List Int) (v : Val), v ∈ vs → v.1 = true → v.2 ∈ seenAll l vs := by
  induction vs with
  | nil => intro l v h; simp at h
  | cons a vs ih =>
    intro l v h h1
    rw [seenAll_cons]
    rcases List.mem_cons.1 h with rfl | h2
    · exact (seenAll_pre _ _).subset (seen1_mem _ _ h1)
    · exact ih _ v h2 h1
theorem bfs_closed {gs : List (List Val)} {n : Nat} (hg : ∀ fs ∈ gs, ValsOk n fs) (f : Nat) : ∀ (k : Nat) (l : List Int), n ≤ f + k → OrdOk n l → (∀ j, (hj : j < l.length) → j < k → ∀ v ∈ fieldsI gs l[j], v.1 = true → v.2 ∈ l) →
    ∀ x ∈ bfs gs f k l, ∀ v ∈ fieldsI gs x, v.1 = true → v.2 ∈ bfs gs f k l := by
  induction f with
  | zero =>
    intro k l hn hok hcl x hx v hv h1
    have hx' : x ∈ l := hx
    obtain ⟨j, hj, rfl⟩ := List.mem_iff_getElem.1 hx'
    have := hok.len
    exact hcl j hj (by omega) v hv h1
  | succ f ih =>
    intro k l hn hok hcl x hx v hv h1
    unfold bfs at hx ⊢
    split at hx
    · rename_i hlt
      rw [if_pos hlt]
      have hgd : l.getD k 0 = l[k] := by rw [List.getD_eq_getElem?_getD, List.getElem?_eq_getElem hlt]; rfl
      rw [hgd] at hx ⊢
      refine ih (k + 1) _ (by omega) (hok.seenAll (fieldsI_ok hg _)) (fun j hj hjk u hu h2 => ?_) x hx v hv h1
      have hjl : j < l.length := by omega
      have he : (seenAll l (fieldsI gs l[k]))[j] = l[j] := (List.IsPrefix.getElem (seenAll_pre l (fieldsI gs l[k])) hjl).symm
      rw [he] at hu
      rcases Nat.lt_or_ge j k with h3 | h3
      · exact (seenAll_pre _ _).subset (hcl j hjl h3 u hu h2)
      · obtain rfl : j = k := by omega
        exact seenAll_mem _ _ _ hu h2
    · rename_i hlt
      rw [if_neg hlt]
      obtain ⟨j, hj, rfl⟩ := List.mem_iff_getElem.1 hx
      exact hcl j hj (by omega) v hv h1
theorem order_closed {gs : List (List Val)} {vs : List Val} (hg : ∀ fs ∈ gs, ValsOk gs.length fs) (hv : ValsOk gs.length vs) : (∀ x ∈ order gs vs, ∀ v ∈ fieldsI gs x, v.1 = true → v.2 ∈ order gs vs) ∧ (∀ v ∈ vs, v.1 = true → v.2 ∈ order gs vs) :=
  ⟨bfs_closed hg _ _ _ (by omega) ((OrdOk.nil _).seenAll hv) (fun j _ h => by omega), fun v hv' h1 => (bfs_pre _ _ _ _).subset (seenAll_mem _ _ _ hv' h1)⟩

/-! ### Words of an arena as values and back. -/
theorem unN_pack (x : Int) (h0 : 0 ≤ x) (h1 : x ≤ 18446744073709551615) (h2 : x % 2 = 1) : packA false (unN x) = x := by
  have hb : -4611686018427387904 ≤ unN x ∧ unN x ≤ 4611686018427387903 := by unfold unN; split <;> omega
  unfold packA
  rw [if_neg (by simp), if_pos hb]
  unfold packN unN
  split <;> omega
theorem good_vals {nW : Nat} {ws : List Int} {xs : List Int} (h : ∀ x ∈ xs, GoodW (parse nW ws 0).1 x) : ValsOk (parse nW ws 0).1.length (xs.map (turnW (ixOf (parse nW ws 0).1))) := by
  intro v hv h1
  obtain ⟨x, hx, rfl⟩ := List.mem_map.1 hv
  have hr : unR x = true := h1
  have := ((h x hx).ref hr).2.2.2.2
  unfold turnW
  rw [hr]
  dsimp only
  rw [if_pos rfl]
  omega
/-- A word as it is laid when objects are numbered by a list is the word as it moves. -/
theorem pack_trans {nW : Nat} {ws L : List Int} {x : Int} (at_ : List Int) (hw : ∀ x ∈ ws, 0 ≤ x) (hl : ws.length ≤ 256) (hx : GoodW (parse nW ws 0).1 x) (hO : OrdOk (parse nW ws 0).1.length L) (hat : ∀ k, k < L.length → at_[k]? = some (sumO (parse nW ws 0).1 (L.take k) : Int)) (hin : unR x = true → (ixOf (parse nW ws 0).1 (unA x) : Int) ∈ L) :
    packV at_ (turnL L (turnW (ixOf (parse nW ws 0).1) x)) = transW (parse nW ws 0).1 L x := by
  unfold packV turnL transW turnW
  cases hr : unR x with
  | false =>
    simp only [Bool.false_eq_true, if_false]
    have hn := hx.num hr
    have ha : unA x = unN x := by unfold unA; rw [if_pos hn]
    rw [ha]
    exact unN_pack x hx.lo hx.hi hn
  | true =>
    have hi := hin hr
    have hlt := newAt_lt hw hO hi
    have hidx : L.idxOf (ixOf (parse nW ws 0).1 (unA x) : Int) < L.length := List.idxOf_lt_length_of_mem hi
    simp only [if_true]
    rw [show placeN L (ixOf (parse nW ws 0).1 (unA x) : Int) = L.idxOf (ixOf (parse nW ws 0).1 (unA x) : Int) from if_pos hi]
    rw [show ((L.idxOf (ixOf (parse nW ws 0).1 (unA x) : Int) : Nat) : Int).toNat = L.idxOf (ixOf (parse nW ws 0).1 (unA x) : Int) from by omega]
    rw [List.getD_eq_getElem?_getD, hat _ hidx]
    unfold packA
    rw [if_pos rfl, Option.getD_some]
    have e : (sumO (parse nW ws 0).1 (L.take (L.idxOf (ixOf (parse nW ws 0).1 (unA x) : Int))) : Int) = (newAt (parse nW ws 0).1 L (ixOf (parse nW ws 0).1 (unA x) : Int) : Int) := rfl
    rw [e, if_pos (by omega)]

theorem fieldsI_graph {nW : Nat} {ws : List Int} {i : Int} (h0 : 0 ≤ i) (h1 : i < (parse nW ws 0).1.length) : fieldsI (graphOf ws (parse nW ws 0).1) i = ((ws.drop (plc (parse nW ws 0).1 i + 1)).take (lenO (parse nW ws 0).1 i)).map (turnW (ixOf (parse nW ws 0).1)) := by
  generalize (parse nW ws 0).1 = pre at *
  have hil : i.toNat < pre.length := by omega
  have hpi : pre.getD i.toNat (0, 0) = pre[i.toNat] := by rw [List.getD_eq_getElem?_getD, List.getElem?_eq_getElem hil]; rfl
  unfold fieldsI graphOf plc lenO fieldsAt
  rw [List.getD_eq_getElem?_getD, List.getElem?_map, List.getElem?_eq_getElem hil, hpi]
  rfl
theorem renum_at {nW : Nat} {ws L : List Int} (hw : ∀ x ∈ ws, 0 ≤ x) (hO : ∀ i ∈ L, 0 ≤ i ∧ i < ((parse nW ws 0).1.length : Int)) (k : Nat) (hk : k < L.length) : (atF (renumF (graphOf ws (parse nW ws 0).1) L))[k]? = some (sumO (parse nW ws 0).1 (L.take k) : Int) := by
  have key : ∀ l : List Int, (∀ i ∈ l, 0 ≤ i ∧ i < ((parse nW ws 0).1.length : Int)) → ((l.map fun x => (fieldsI (graphOf ws (parse nW ws 0).1) x).map (turnL L)).map fun f => (1 : Int) + (f.length : Int)).sum = (sumO (parse nW ws 0).1 l : Int) := by
    intro l hl
    induction l with
    | nil => rfl
    | cons a l ih =>
      obtain ⟨a0, a1⟩ := hl a (by simp)
      have ih := ih (fun i hi => hl i (by simp [hi]))
      obtain ⟨g1, _, _, _, g5⟩ := rawO_len (nW := nW) (o := 1) hw a0 a1
      unfold rawO at g1
      unfold sumO at *
      simp only [List.map_cons, List.sum_cons] at ih ⊢
      rw [ih, fieldsI_graph a0 a1]
      simp only [List.length_map, List.length_cons] at g1 ⊢
      omega
  unfold atF
  rw [List.getElem?_map, List.getElem?_range (by unfold renumF; rw [List.length_map]; exact hk)]
  simp only [Option.map_some]
  unfold renumF
  rw [← List.map_take, key _ (fun i hi => hO i (List.mem_of_mem_take hi))]
theorem zip_map_map {α β γ : Type} (f : α → β) (g : α → γ) (l : List α) : (l.map f).zip (l.map g) = l.map fun a => (f a, g a) := by
  induction l with
  | nil => rfl
  | cons a l ih => simp [ih]

theorem flatMap_congr_ {α β : Type} {l : List α} {f g : α → List β} (h : ∀ a ∈ l, f a = g a) : l.flatMap f = l.flatMap g := by
  induction l with
  | nil => rfl
  | cons a l ih => rw [List.flatMap_cons, List.flatMap_cons, h a (by simp), ih (fun b hb => h b (by simp [hb]))]

theorem move_words {nW : Nat} {ws L : List Int} (o : Int) (hw : ∀ x ∈ ws, 0 ≤ x) (hl : ws.length ≤ 256) (hgood : ∀ x ∈ fieldsOf ws (parse nW ws 0).1, GoodW (parse nW ws 0).1 x) (hO : OrdOk (parse nW ws 0).1.length L)
    (hcl : ∀ x ∈ L, ∀ v ∈ fieldsI (graphOf ws (parse nW ws 0).1) x, v.1 = true → v.2 ∈ L) :
    layW (renumF (graphOf ws (parse nW ws 0).1) L) (headsAt (headsL ws (parse nW ws 0).1) L o) = L.flatMap fun i => (headW (older o (headOf (ws.getD (plc (parse nW ws 0).1 i) 0))).1 false (older o (headOf (ws.getD (plc (parse nW ws 0).1 i) 0))).2.2) :: ((ws.drop (plc (parse nW ws 0).1 i + 1)).take (lenO (parse nW ws 0).1 i)).map (transW (parse nW ws 0).1 L) := by
  have hat := renum_at (nW := nW) hw hO.rng
  unfold layW
  generalize hA : atF (renumF (graphOf ws (parse nW ws 0).1) L) = A at *
  unfold renumF headsAt
  rw [zip_map_map, List.flatMap_map]
  refine flatMap_congr_ fun i hi => ?_
  obtain ⟨i0, i1⟩ := hO.rng i hi
  have hil : i.toNat < (parse nW ws 0).1.length := by omega
  have hh : (headsL ws (parse nW ws 0).1).getD i.toNat (0, false, 0) = headOf (ws.getD (plc (parse nW ws 0).1 i) 0) := by
    unfold headsL plc
    simp [List.getD_eq_getElem?_getD, List.getElem?_eq_getElem hil]
  dsimp only
  rw [hh, fieldsI_graph i0 i1, List.map_map, List.map_map]
  congr 1
  refine List.map_congr_left fun x hx => ?_
  have hpi : (parse nW ws 0).1.getD i.toNat (0, 0) = (parse nW ws 0).1[i.toNat] := by rw [List.getD_eq_getElem?_getD, List.getElem?_eq_getElem hil]; rfl
  have hx2 : GoodW (parse nW ws 0).1 x := hgood x (List.mem_flatMap.2 ⟨(parse nW ws 0).1[i.toNat], List.getElem_mem hil, by
    rw [← hpi]; exact hx⟩)
  refine pack_trans A hw hl hx2 hO hat (fun hr => ?_)
  have := hcl i hi (turnW (ixOf (parse nW ws 0).1) x) (by rw [fieldsI_graph i0 i1]; exact List.mem_map.2 ⟨x, hx, rfl⟩) hr
  unfold turnW at this
  rw [hr] at this
  simpa using this
end Go.Proofs.Ytpbafmdebflbpaa
