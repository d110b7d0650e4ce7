/- A memory with young and old objects, plain: it stays whole. -/
import Derived.Test.YtjphckfbbiehdaaSGenPlays22
set_option linter.unusedSimpArgs false
set_option linter.unusedVariables false
namespace Go.Proofs.Ytjphckfbbiehdaa
open Go.RowKit
theorem GnA.od_range (f : Nat → Bool) (n i : Nat) (h : i < n) : ((List.range n).map f).getD i false = f i := by
  rw [List.getD_eq_getElem?_getD, List.getElem?_map, List.getElem?_range h]; rfl
theorem GnA.vok_rng {a : GnA} {v : Val} (h : a.vok v) : v.1 = true → 0 ≤ v.2 ∧ v.2 < (a.objs.length : Int) := fun h1 => by
  obtain ⟨i, fs, e, hf⟩ := h h1
  have := GnA.fld_lt hf
  omega
theorem GnA.gsY_len (a : GnA) : a.gsY.length = a.objs.length := by simp [GnA.gsY]
theorem GnA.gs_len (a : GnA) : a.gs.length = a.objs.length := List.length_map ..
theorem GnA.gsY_get (a : GnA) (i : Nat) : fieldsI a.gsY (i : Int) = if a.od i = true then [] else (a.fld i).getD [] := by
  unfold fieldsI GnA.gsY
  rw [Int.toNat_natCast, List.getD_eq_getElem?_getD, List.getElem?_map]
  rcases Nat.lt_or_ge i a.objs.length with h | h
  · rw [List.getElem?_range h]; rfl
  · rw [List.getElem?_eq_none (by simpa using h)]
    have : a.fld i = none := by unfold GnA.fld; rw [List.getElem?_eq_none h]; rfl
    rw [this]
    simp
theorem GnA.gs_get (a : GnA) (i : Nat) : fieldsI a.gs (i : Int) = (a.fld i).getD [] := by
  unfold fieldsI GnA.gs GnA.fld
  rw [Int.toNat_natCast, List.getD_eq_getElem?_getD, List.getElem?_map]
  cases a.objs[i]? <;> rfl
theorem GnOk.mkv {a : GnA} (ok : GnOk a) {p : Gp} (hp : p ∈ a.mks) : ∃ fs, a.fld p.1 = some fs ∧ ((a.fld p.1).getD []).getD p.2 (false, 0) ∈ fs ∧ fs[p.2]? = some (((a.fld p.1).getD []).getD p.2 (false, 0)) := by
  obtain ⟨_, fs, h1, h2⟩ := ok.mo p hp
  refine ⟨fs, h1, ?_, ?_⟩
  · rw [h1, Option.getD_some, List.getD_eq_getElem?_getD, List.getElem?_eq_getElem h2]; exact List.getElem_mem h2
  · rw [h1, Option.getD_some, List.getD_eq_getElem?_getD, List.getElem?_eq_getElem h2]; rfl
theorem GnOk.gvY {a : GnA} (ok : GnOk a) : (∀ fs ∈ a.gsY, ValsOk a.gsY.length fs) ∧ ValsOk a.gsY.length a.rtY := by
  rw [a.gsY_len]
  refine ⟨fun fs hf v hv => ?_, fun v hv => ?_⟩
  · obtain ⟨i, hi, rfl⟩ := List.mem_map.1 hf
    split at hv
    · cases hv
    · cases h : a.fld i with
      | none => rw [h] at hv; cases hv
      | some gs => rw [h] at hv; exact GnA.vok_rng (ok.vf i gs v h hv)
  · rcases List.mem_append.1 hv with hv | hv
    · exact GnA.vok_rng (ok.vr v hv)
    · obtain ⟨p, hp, rfl⟩ := List.mem_map.1 hv
      obtain ⟨fs, h1, h2, _⟩ := ok.mkv hp
      exact GnA.vok_rng (ok.vf p.1 fs _ h1 h2)
theorem GnOk.gv {a : GnA} (ok : GnOk a) : (∀ fs ∈ a.gs, ValsOk a.gs.length fs) ∧ ValsOk a.gs.length a.regs := by
  rw [a.gs_len]
  refine ⟨fun fs hf v hv => ?_, fun v hv => GnA.vok_rng (ok.vr v hv)⟩
  obtain ⟨o, ho, rfl⟩ := List.mem_map.1 hf
  cases o with
  | none => cases hv
  | some fs =>
    obtain ⟨i, hi⟩ := List.mem_iff_getElem?.1 ho
    exact GnA.vok_rng (ok.vf i fs v (GnA.fld_iff.2 hi) hv)
theorem val_eq {v : Val} {i : Nat} (h1 : v.1 = true) (h2 : v.2 = (i : Int)) : v = (true, (i : Int)) := Prod.ext h1 h2
theorem GnOk.kept_reg {a : GnA} (ok : GnOk a) {v : Val} (hv : v ∈ a.regs) (h1 : v.1 = true) : ∃ (j : Nat) (fs : List Val), v.2 = (j : Int) ∧ a.fld j = some fs ∧ a.kept j = true := by
  obtain ⟨j, fs, e, hf⟩ := ok.vr v hv h1
  refine ⟨j, fs, e, hf, ?_⟩
  unfold GnA.kept
  rw [Bool.or_eq_true, decide_eq_true_eq, mem_reachR ok.gvY.1 ok.gvY.2]
  exact .inr ⟨0, .root _ (List.mem_append_left _ (val_eq h1 e ▸ hv))⟩
theorem GnOk.kept_fld {a : GnA} (ok : GnOk a) {i : Nat} {fs : List Val} {v : Val} (hi : a.fld i = some fs) (hk : a.kept i = true) (hv : v ∈ fs) (h1 : v.1 = true) : ∃ (j : Nat) (gs : List Val), v.2 = (j : Int) ∧ a.fld j = some gs ∧ a.kept j = true := by
  obtain ⟨j, gs, e, hf⟩ := ok.vf i fs v hi hv h1
  refine ⟨j, gs, e, hf, ?_⟩
  have hv2 := val_eq h1 e
  subst hv2
  unfold GnA.kept at hk ⊢
  rw [Bool.or_eq_true, decide_eq_true_eq, mem_reachR ok.gvY.1 ok.gvY.2] at hk ⊢
  cases hj : a.od j with
  | true => exact .inl rfl
  | false =>
    right
    cases hoi : a.od i with
    | true =>
      obtain ⟨k, hk2⟩ := List.mem_iff_getElem?.1 hv
      have hm := ok.rm i fs k j hi hoi hk2 hj
      refine ⟨0, .root _ (List.mem_append_right _ (List.mem_map.2 ⟨(i, k), hm, ?_⟩))⟩
      rw [hi, Option.getD_some, List.getD_eq_getElem?_getD, hk2]; rfl
    | false =>
      obtain ⟨n, hn⟩ := hk.resolve_left (by rw [hoi]; simp)
      refine ⟨n + 1, .step n _ _ hn ?_⟩
      rw [a.gsY_get, hoi, if_neg (by simp), hi]
      exact hv
theorem GnOk.lives_reg {a : GnA} (ok : GnOk a) {v : Val} (hv : v ∈ a.regs) (h1 : v.1 = true) : ∃ (j : Nat) (fs : List Val), v.2 = (j : Int) ∧ a.fld j = some fs ∧ a.lives j = true := by
  obtain ⟨j, fs, e, hf⟩ := ok.vr v hv h1
  refine ⟨j, fs, e, hf, ?_⟩
  unfold GnA.lives
  rw [decide_eq_true_eq, mem_reachR ok.gv.1 ok.gv.2]
  exact ⟨0, .root _ (val_eq h1 e ▸ hv)⟩
theorem GnOk.lives_fld {a : GnA} (ok : GnOk a) {i : Nat} {fs : List Val} {v : Val} (hi : a.fld i = some fs) (hk : a.lives i = true) (hv : v ∈ fs) (h1 : v.1 = true) : ∃ (j : Nat) (gs : List Val), v.2 = (j : Int) ∧ a.fld j = some gs ∧ a.lives j = true := by
  obtain ⟨j, gs, e, hf⟩ := ok.vf i fs v hi hv h1
  refine ⟨j, gs, e, hf, ?_⟩
  have hv2 := val_eq h1 e
  subst hv2
  unfold GnA.lives at hk ⊢
  rw [decide_eq_true_eq, mem_reachR ok.gv.1 ok.gv.2] at hk ⊢
  obtain ⟨n, hn⟩ := hk
  refine ⟨n + 1, .step n _ _ hn ?_⟩
  rw [a.gs_get, hi]
  exact hv
theorem dropK_fld {a : GnA} {K : Nat → Bool} {old : List Bool} {mk : List Gp} {i : Nat} {fs : List Val} : (⟨a.regs, dropK K a.objs, old, mk⟩ : GnA).fld i = some fs ↔ a.fld i = some fs ∧ K i = true := by
  rw [GnA.fld_iff, GnA.fld_iff]
  exact dropK_get K a.objs i fs
theorem GnOk.drop {a : GnA} (ok : GnOk a) {K O : Nat → Bool} (h1 : ∀ v ∈ a.regs, v.1 = true → ∃ (j : Nat) (fs : List Val), v.2 = (j : Int) ∧ a.fld j = some fs ∧ K j = true)
    (h2 : ∀ i fs v, a.fld i = some fs → K i = true → v ∈ fs → v.1 = true → ∃ (j : Nat) (gs : List Val), v.2 = (j : Int) ∧ a.fld j = some gs ∧ K j = true) (h3 : ∀ i fs, a.fld i = some fs → K i = true → O i = true) :
    GnOk ⟨a.regs, dropK K a.objs, (List.range a.objs.length).map O, []⟩ := by
  refine ⟨ok.r8, by rw [List.length_map, List.length_range]; exact (dropK_len K a.objs).symm, fun v hv hv1 => ?_, fun i fs v hf hv hv1 => ?_, fun i fs hf => ok.f4 i fs (dropK_fld.1 hf).1, fun p hp => by (cases hp), .nil, fun i fs k j hf ho hk hj => ?_⟩
  · obtain ⟨j, gs, e, hg, hk⟩ := h1 v hv hv1
    exact ⟨j, gs, e, dropK_fld.2 ⟨hg, hk⟩⟩
  · obtain ⟨hf, hki⟩ := dropK_fld.1 hf
    obtain ⟨j, gs, e, hg, hk⟩ := h2 i fs v hf hki hv hv1
    exact ⟨j, gs, e, dropK_fld.2 ⟨hg, hk⟩⟩
  · obtain ⟨hf, hki⟩ := dropK_fld.1 hf
    obtain ⟨j', gs, e, hg, hk2⟩ := h2 i fs _ hf hki (List.mem_of_getElem? hk) rfl
    dsimp only at e
    obtain rfl : j = j' := by omega
    have h5 : ((List.range a.objs.length).map O).getD j false = O j := GnA.od_range O _ j (GnA.fld_lt hg)
    have h6 : ((List.range a.objs.length).map O).getD j false = false := hj
    rw [h5, h3 j gs hg hk2] at h6
    cases h6
theorem GnOk.minor {a : GnA} (ok : GnOk a) : GnOk a.minor := ok.drop (fun _ hv h1 => ok.kept_reg hv h1) (fun _ _ _ hi hk hv h1 => ok.kept_fld hi hk hv h1) (fun _ _ _ hk => hk)
theorem GnOk.major {a : GnA} (ok : GnOk a) : GnOk a.major := ok.drop (fun _ hv h1 => ok.lives_reg hv h1) (fun _ _ _ hi hk hv h1 => ok.lives_fld hi hk hv h1) (fun i fs hf _ => by rw [hf]; simp)
theorem GnOk.sr {a : GnA} (ok : GnOk a) (r : Nat) {v : Val} (hv : a.vok v) : GnOk (a.sr r v) :=
  ⟨by show (a.regs.set r v).length = 8; rw [List.length_set]; exact ok.r8, ok.ol, fun u hu => by
    rcases mem_set_ (show u ∈ a.regs.set r v from hu) with h | rfl
    · exact ok.vr u h
    · exact hv, ok.vf, ok.f4, ok.mo, ok.ms, ok.rm⟩
theorem GnOk.rg {a : GnA} (ok : GnOk a) (r : Int) : a.vok (rgA a.regs r) := by
  unfold rgA
  rcases getD_mem_or a.regs r.toNat (false, 0) with h2 | h2
  · exact ok.vr _ h2
  · rw [h2]; intro h1; cases h1
theorem gnPut_fld {a : GnA} {i k : Nat} {fs : List Val} (v : Val) (hf : a.fld i = some fs) (j : Nat) (gs : List Val) : (gnPut a i k v).fld j = some gs ↔ (j = i ∧ gs = fs.set k v) ∨ (j ≠ i ∧ a.fld j = some gs) := by
  rw [GnA.fld_iff, GnA.fld_iff]
  show (a.objs.set i _)[j]? = _ ↔ _
  rw [List.getElem?_set, hf]
  have hl := GnA.fld_lt hf
  by_cases e : i = j
  · subst e
    rw [if_pos rfl, if_pos hl]
    simp [eq_comm]
  · rw [if_neg e]
    constructor
    · exact fun h => .inr ⟨fun h1 => e h1.symm, h⟩
    · rintro (⟨h1, _⟩ | ⟨_, h⟩)
      · exact absurd h1.symm e
      · exact h
theorem GnOk.put {a : GnA} (ok : GnOk a) {i k : Nat} {fs : List Val} {v : Val} (hf : a.fld i = some fs) (hk : k < fs.length) (hv : a.vok v) : GnOk (gnPut a i k v) := by
  have hvo : ∀ u, a.vok u → (gnPut a i k v).vok u := fun u h h1 => by
    obtain ⟨j, gs, e, hg⟩ := h h1
    by_cases ej : j = i
    · exact ⟨j, _, e, (gnPut_fld v hf j _).2 (.inl ⟨ej, rfl⟩)⟩
    · exact ⟨j, gs, e, (gnPut_fld v hf j gs).2 (.inr ⟨ej, hg⟩)⟩
  have hmk : ∀ p, p ∈ (gnPut a i k v).mks → (p = (i, k) ∧ a.od i = true) ∨ p ∈ a.mks := fun p hp => by
    unfold gnPut at hp
    dsimp only at hp
    split at hp
    · rename_i hc
      simp only [Bool.and_eq_true] at hc
      rcases mem_insF.1 hp with h | h
      · exact .inl ⟨h, hc.1.1⟩
      · exact .inr h
    · exact .inr hp
  have hmk2 : ∀ p, p ∈ a.mks → p ∈ (gnPut a i k v).mks := fun p hp => by
    unfold gnPut
    dsimp only
    split
    · exact mem_insF.2 (.inr hp)
    · exact hp
  refine ⟨ok.r8, ?_, fun u hu => hvo u (ok.vr u hu), ?_, ?_, fun p hp => ?_, ?_, ?_⟩
  · show a.old.length = (a.objs.set i _).length
    rw [List.length_set]; exact ok.ol
  · intro j gs u hg hu
    rcases (gnPut_fld v hf j gs).1 hg with ⟨rfl, rfl⟩ | ⟨_, h2⟩
    · rcases mem_set_ hu with h3 | rfl
      · exact hvo u (ok.vf j fs u hf h3)
      · exact hvo u hv
    · exact hvo u (ok.vf j gs u h2 hu)
  · intro j gs hg
    rcases (gnPut_fld v hf j gs).1 hg with ⟨rfl, rfl⟩ | ⟨_, h2⟩
    · rw [List.length_set]; exact ok.f4 j fs hf
    · exact ok.f4 j gs h2
  · have key : a.od p.1 = true ∧ ∃ gs, a.fld p.1 = some gs ∧ p.2 < gs.length := by
      rcases hmk p hp with ⟨rfl, ho⟩ | h
      · exact ⟨ho, fs, hf, hk⟩
      · exact ok.mo p h
    obtain ⟨k1, gs, k2, k3⟩ := key
    refine ⟨k1, ?_⟩
    by_cases e : p.1 = i
    · rw [e] at k2
      rw [hf] at k2
      injection k2 with k2
      subst k2
      exact ⟨_, (gnPut_fld v hf p.1 _).2 (.inl ⟨e, rfl⟩), by rw [List.length_set]; exact k3⟩
    · exact ⟨gs, (gnPut_fld v hf p.1 gs).2 (.inr ⟨e, k2⟩), k3⟩
  · unfold gnPut
    dsimp only
    split
    · exact insF_sorted ok.ms
    · exact ok.ms
  · intro j gs m q hg ho hq hqo
    have ho' : a.od j = true := ho
    have hqo' : a.od q = false := hqo
    rcases (gnPut_fld v hf j gs).1 hg with ⟨rfl, rfl⟩ | ⟨_, h2⟩
    · rw [List.getElem?_set] at hq
      by_cases e : k = m
      · subst e
        rw [if_pos rfl, if_pos hk] at hq
        injection hq with hq
        subst hq
        unfold gnPut
        dsimp only
        rw [Int.toNat_natCast, ho', hqo']
        exact mem_insF.2 (.inl rfl)
      · rw [if_neg e] at hq
        exact hmk2 _ (ok.rm j fs m q hf ho' hq hqo')
    · exact hmk2 _ (ok.rm j gs m q h2 ho' hq hqo')
theorem GnA.push_fld (a : GnA) (n i : Nat) (fs : List Val) : (a.push n).fld i = some fs ↔ a.fld i = some fs ∨ (i = a.objs.length ∧ fs = zeroVs n) := by
  rw [GnA.fld_iff, GnA.fld_iff]
  show (a.objs ++ [some (zeroVs n)])[i]? = _ ↔ _
  by_cases h : i < a.objs.length
  · rw [List.getElem?_append_left h]
    exact ⟨.inl, fun h1 => h1.elim id fun h2 => by omega⟩
  · rw [List.getElem?_append_right (by omega), List.getElem?_eq_none (l := a.objs) (by omega)]
    by_cases e : i = a.objs.length
    · subst e; simp [eq_comm]
    · rw [List.getElem?_eq_none (by simp only [List.length_singleton]; omega)]
      simp [e]
theorem GnOk.push_od {a : GnA} (ok : GnOk a) (n i : Nat) (h : i < a.objs.length) : (a.push n).od i = a.od i := by
  show (a.old ++ [false]).getD i false = a.old.getD i false
  rw [List.getD_eq_getElem?_getD, List.getD_eq_getElem?_getD, List.getElem?_append_left (by rw [ok.ol]; exact h)]
theorem GnOk.push_od_new {a : GnA} (ok : GnOk a) (n : Nat) : (a.push n).od a.objs.length = false := by
  show (a.old ++ [false]).getD _ false = false
  rw [List.getD_eq_getElem?_getD, ← ok.ol]
  simp
theorem GnOk.push {a : GnA} (ok : GnOk a) {n : Nat} (h4 : n ≤ 4) : GnOk (a.push n) ∧ (a.push n).vok (true, (a.objs.length : Int)) := by
  have hvo : ∀ u, a.vok u → (a.push n).vok u := fun u h h1 => by
    obtain ⟨j, gs, e, hg⟩ := h h1
    exact ⟨j, gs, e, (a.push_fld n j gs).2 (.inl hg)⟩
  refine ⟨⟨ok.r8, by show (a.old ++ [false]).length = (a.objs ++ [_]).length; simp [ok.ol], fun u hu => hvo u (ok.vr u hu), ?_, ?_, fun p hp => ?_, ok.ms, ?_⟩, fun _ => ⟨_, _, rfl, (a.push_fld n _ _).2 (.inr ⟨rfl, rfl⟩)⟩⟩
  · intro j gs u hg hu
    rcases (a.push_fld n j gs).1 hg with h | ⟨_, rfl⟩
    · exact hvo u (ok.vf j gs u h hu)
    · obtain ⟨_, rfl⟩ := List.mem_replicate.1 hu
      intro h1; cases h1
  · intro j gs hg
    rcases (a.push_fld n j gs).1 hg with h | ⟨_, rfl⟩
    · exact ok.f4 j gs h
    · simp [zeroVs, h4]
  · obtain ⟨k1, gs, k2, k3⟩ := ok.mo p hp
    exact ⟨by rw [ok.push_od n p.1 (GnA.fld_lt k2)]; exact k1, gs, (a.push_fld n _ _).2 (.inl k2), k3⟩
  · intro j gs m q hg ho hq hqo
    rcases (a.push_fld n j gs).1 hg with h | ⟨_, rfl⟩
    · obtain ⟨q', _, e, hq'⟩ := ok.vf j gs _ h (List.mem_of_getElem? hq) rfl
      dsimp only at e
      obtain rfl : q = q' := by omega
      rw [ok.push_od n j (GnA.fld_lt h)] at ho
      rw [ok.push_od n q (GnA.fld_lt hq')] at hqo
      exact ok.rm j gs m q h ho hq hqo
    · have := List.mem_of_getElem? hq
      obtain ⟨_, h⟩ := List.mem_replicate.1 this
      cases h
theorem GnOk.room {a : GnA} (ok : GnOk a) (room : Nat) : GnOk (gnRoom room a) := by
  unfold gnRoom
  split
  · exact ok.minor
  · exact ok
theorem gnRoom_len (room : Nat) (a : GnA) : (gnRoom room a).objs.length = a.objs.length := by
  unfold gnRoom
  split
  · exact dropK_len _ _
  · rfl
theorem GnOk.new_ {a : GnA} (ok : GnOk a) (room : Nat) {n : Nat} (h4 : n ≤ 4) : GnOk (gnNew room a n).1 ∧ ((gnNew room a n).2.2 = 0 → (gnNew room a n).1.vok (true, (gnNew room a n).2.1)) := by
  unfold gnNew
  split
  · exact ⟨ok.room room, fun h => absurd h (show ¬ (6 : Int) = 0 by decide)⟩
  · have h := (ok.room room).push h4
    rw [gnRoom_len] at h
    exact ⟨h.1, fun _ => h.2⟩
end Go.Proofs.Ytjphckfbbiehdaa
