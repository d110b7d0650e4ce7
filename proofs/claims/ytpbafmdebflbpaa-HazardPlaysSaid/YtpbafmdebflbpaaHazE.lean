/- hazard: does, as one step of a model. -/
import Derived.Test.YtpbafmdebflbpaaHazD
namespace Go.Proofs.Ytpbafmdebflbpaa
open Go.RowKit

def HM.guarded (m : HM) (x : Int) : Bool := m.ths.any fun t => t.1 == x
def HM.upd (m : HM) (j : Nat) (f : Int × List Int → Int × List Int) : HM := { m with ths := m.ths.modify j f }
def HM.does (m : HM) (k who it by_ : Int) : Int × HM :=
  if k < 1 ∨ 4 < k then (5, m)
  else if who < 0 ∨ (m.ths.length : Int) ≤ who ∨ ((k = 1 ∨ k = 3) ∧ (it < 0 ∨ 100 ≤ it)) then (2, m)
  else if (k = 1 ∨ k = 3) ∧ m.gone[it.toNat]?.getD false = true then (8, m)
  else if k = 1 then (0, m.upd who.toNat fun t => (it, t.2))
  else if k = 2 then (0, m.upd who.toNat fun t => (-1, t.2))
  else if k = 3 then (0, { m.upd who.toNat fun t => (t.1, t.2 ++ [it]) with gone := m.gone.set it.toNat true })
  else (0, { m.upd who.toNat fun t => (t.1, t.2.filter m.guarded) with freed := m.freed ++ (((m.ths[who.toNat]?.getD (0, [])).2.filter fun x => !m.guarded x).map fun x => (x, by_)) })

theorem Hz.abs_guarded (s : Hz) (x : Int) : s.abs.guarded x = isGuarded s.ths x := by
  unfold HM.guarded isGuarded Hz.abs; simp [List.any_map, Function.comp_def]
theorem map_set_modify (l : List Th) (j : Nat) (t t' : Th) (hj : l[j]? = some t) (f : Int × List Int → Int × List Int) (hf : (t'.gd, t'.ws) = f (t.gd, t.ws)) :
    (l.set j t').map (fun t => (t.gd, t.ws)) = (l.map fun t => (t.gd, t.ws)).modify j f := by
  apply List.ext_getElem?
  intro i
  rw [List.getElem?_map, List.getElem?_set, List.getElem?_modify, List.getElem?_map]
  by_cases hij : j = i
  · subst hij
    have hlt := (List.getElem?_eq_some_iff.1 hj).1
    have he : l[j] = t := (List.getElem?_eq_some_iff.1 hj).2
    simp [hlt, he, hf]
  · simp [hij]

/-- The numbers that stand beside the slices are the lists' lengths. -/
theorem Hz.lens {s : Hz} {w : World} (h : s.item.P w) : s.nt = s.ths.length ∧ s.nf = s.freed.length ∧ ∀ t ∈ s.ths, t.n = t.ws.length := by
  have hS := (Sep.start h).flat
  have hR : w.ownsRow 0 98 1 (.slice s.At s.nt s.ct) s.nt (s.ths.map Th.ptr) := hS.all (rowI 98 1 s.At s.nt s.ct (s.ths.map Th.ptr)) (by simp [Hz.items])
  have hF : w.ownsRow 0 105 2 (.slice s.Af s.nf s.cf) s.nf (fates s.freed) := hS.all (rowI 105 2 s.Af s.nf s.cf (fates s.freed)) (by simp [Hz.items])
  have hT : ∀ t ∈ s.ths, t.item.P w := fun t ht => hS.all t.item (by simp [Hz.items]; exact .inr (.inr (.inr ⟨t, ht, rfl⟩)))
  refine ⟨by have := hR.1; simp at this; omega, by have := hF.1; rw [fates_length] at this; omega, fun t ht => ?_⟩
  have : w.ownsRow 0 3 1 (.slice t.A t.n t.c) t.n (ints t.ws) := (hT t ht).1 t.row (by simp)
  have := this.1; simp at this; omega

theorem does_any (w : World) (s : Hz) (k who it by_ : Int) (hs : s.item.P w) (hg : s.gone.length = 100) (ht : s.ths.length ≤ 100) (hf : s.freed.length ≤ 5000) (hn : ∀ t ∈ s.ths, t.ws.length ≤ 5000) :
    Calls Try.prog 55 #[.pointer (some ⟨s.gw, 0, none⟩), deedV k who it, .int .i64 by_] w fun e w' => ∃ s' : Hz, e = .returned (.int .i64 (s.abs.does k who it by_).1) ∧ s'.abs = (s.abs.does k who it by_).2 ∧ Sep s.item.fp w w' [s'.item] ∧ s'.gw = s.gw := by
  obtain ⟨l1, l2, l3⟩ := Hz.lens hs
  have hlen : s.abs.ths.length = s.ths.length := by simp [Hz.abs]
  by_cases h1 : k < 1 ∨ 4 < k
  · refine (does_kind w s k who it by_ hs h1).mono fun e w' ⟨he, hS⟩ => ⟨s, ?_, ?_, hS, rfl⟩ <;> unfold HM.does <;> rw [if_pos h1]
    exact he
  by_cases h2 : who < 0 ∨ (s.abs.ths.length : Int) ≤ who ∨ ((k = 1 ∨ k = 3) ∧ (it < 0 ∨ 100 ≤ it))
  · have hd : s.abs.does k who it by_ = (2, s.abs) := by unfold HM.does; rw [if_neg h1, if_pos h2]
    rw [hd]
    have key : Calls Try.prog 55 #[.pointer (some ⟨s.gw, 0, none⟩), deedV k who it, .int .i64 by_] w fun e w' => e = .returned (.int .i64 2) ∧ Sep s.item.fp w w' [s.item] := by
      rw [hlen, ← l1] at h2
      by_cases h3 : who < 0
      · rcases (show k = 1 ∨ k = 2 ∨ k = 3 ∨ k = 4 by omega) with rfl | rfl | rfl | rfl
        · exact does_who1a w s who it by_ hs hg h3
        · exact does_who2a w s who it by_ hs hg h3
        · exact does_who3a w s who it by_ hs hg h3
        · exact does_who4a w s who it by_ hs hg h3
      · by_cases h4 : s.nt ≤ who
        · rcases (show k = 1 ∨ k = 2 ∨ k = 3 ∨ k = 4 by omega) with rfl | rfl | rfl | rfl
          · exact does_who1b w s who it by_ hs hg h3 h4
          · exact does_who2b w s who it by_ hs hg h3 h4
          · exact does_who3b w s who it by_ hs hg h3 h4
          · exact does_who4b w s who it by_ hs hg h3 h4
        · rcases (show k = 1 ∨ k = 3 by omega) with rfl | rfl
          · by_cases h5 : it < 0
            · exact does_item1a w s who it by_ hs hg h3 h4 h5
            · exact does_item1b w s who it by_ hs hg h3 h4 h5 (by omega)
          · by_cases h5 : it < 0
            · exact does_item3a w s who it by_ hs hg h3 h4 h5
            · exact does_item3b w s who it by_ hs hg h3 h4 h5 (by omega)
    exact key.mono fun e w' ⟨he, hS⟩ => ⟨s, he, rfl, hS, rfl⟩
  have hw0 : 0 ≤ who := by omega
  obtain ⟨j, rfl⟩ := Int.eq_ofNat_of_zero_le hw0
  have hjl : j < s.ths.length := by omega
  have hj : s.ths[j]? = some s.ths[j] := List.getElem?_eq_getElem hjl
  have hn1 := hn _ (List.getElem_mem hjl)
  have hn2 := l3 _ (List.getElem_mem hjl)
  by_cases h3 : (k = 1 ∨ k = 3) ∧ s.abs.gone[it.toNat]?.getD false = true
  · have hd : s.abs.does k j it by_ = (8, s.abs) := by unfold HM.does; rw [if_neg h1, if_neg h2, if_pos h3]
    rw [hd]
    obtain ⟨i, rfl⟩ := Int.eq_ofNat_of_zero_le (show 0 ≤ it by omega)
    have hi : i < 100 := by omega
    have hgo : s.gone[i] = true := by
      have := h3.2
      simp only [Hz.abs, Int.toNat_natCast] at this
      rw [List.getElem?_eq_getElem (by omega)] at this
      simpa using this
    have key : Calls Try.prog 55 #[.pointer (some ⟨s.gw, 0, none⟩), deedV k j i, .int .i64 by_] w fun e w' => e = .returned (.int .i64 8) ∧ Sep s.item.fp w w' [s.item] := by
      rcases h3.1 with rfl | rfl
      · exact does_gone1 w s j i _ by_ hs hg hj hi hgo
      · exact does_gone3 w s j i _ by_ hs hg hj hi hgo
    exact key.mono fun e w' ⟨he, hS⟩ => ⟨s, he, rfl, hS, rfl⟩
  have hd : ∀ x, s.abs.does k j it by_ = x ↔ (if k = 1 then (0, s.abs.upd j fun t => (it, t.2)) else if k = 2 then (0, s.abs.upd j fun t => (-1, t.2)) else if k = 3 then (0, { s.abs.upd j fun t => (t.1, t.2 ++ [it]) with gone := s.abs.gone.set it.toNat true })
      else (0, { s.abs.upd j fun t => (t.1, t.2.filter s.abs.guarded) with freed := s.abs.freed ++ (((s.abs.ths[j]?.getD (0, [])).2.filter fun x => !s.abs.guarded x).map fun x => (x, by_)) })) = x := by
    intro x; unfold HM.does; rw [if_neg h1, if_neg h2, if_neg h3]; rfl
  rw [(hd _).2 rfl]
  rcases (show k = 1 ∨ k = 2 ∨ k = 3 ∨ k = 4 by omega) with rfl | rfl | rfl | rfl
  · obtain ⟨i, rfl⟩ := Int.eq_ofNat_of_zero_le (show 0 ≤ it by omega)
    have hi : i < 100 := by omega
    have hgo : s.gone[i] = false := by
      have := h3
      simp only [Hz.abs, Int.toNat_natCast] at this
      rw [List.getElem?_eq_getElem (by omega)] at this
      simpa using this
    refine (does_guard w s j i _ by_ hs hg hj hi hgo).mono fun e w' ⟨he, hS⟩ => ⟨_, he, ?_, hS, rfl⟩
    rw [if_pos rfl]
    unfold HM.upd Hz.abs
    simp only [HM.mk.injEq, true_and]
    exact map_set_modify _ _ _ _ hj _ (by rfl)
  · refine (does_clear w s j _ it by_ hs hg hj).mono fun e w' ⟨he, hS⟩ => ⟨_, he, ?_, hS, rfl⟩
    rw [if_neg (by omega), if_pos rfl]
    unfold HM.upd Hz.abs
    simp only [HM.mk.injEq, true_and]
    exact map_set_modify _ _ _ _ hj _ (by rfl)
  · obtain ⟨i, rfl⟩ := Int.eq_ofNat_of_zero_le (show 0 ≤ it by omega)
    have hi : i < 100 := by omega
    have hgo : s.gone[i] = false := by
      have := h3
      simp only [Hz.abs, Int.toNat_natCast] at this
      rw [List.getElem?_eq_getElem (by omega)] at this
      simpa using this
    refine (does_retire w s j i _ by_ hs hg hj hi hgo (by omega)).mono fun e w' ⟨he, A, n, c, hS⟩ => ⟨_, he, ?_, hS, rfl⟩
    rw [if_neg (by omega), if_neg (by omega), if_pos rfl]
    unfold HM.upd Hz.abs
    simp only [HM.mk.injEq, true_and, Int.toNat_natCast]
    exact map_set_modify _ _ _ _ hj _ (by rfl)
  · refine (does_scan w s j _ it by_ hs hg hj (by omega) (by omega) (by omega)).mono fun e w' ⟨A, n, c, Af, nf, cf, he, hS⟩ => ⟨_, he, ?_, hS, rfl⟩
    rw [if_neg (by omega), if_neg (by omega), if_neg (by omega)]
    have hgd : s.abs.guarded = isGuarded s.ths := funext fun x => s.abs_guarded x
    rw [hgd]
    unfold HM.upd Hz.abs
    simp only [HM.mk.injEq, true_and]
    refine ⟨?_, map_set_modify _ _ _ _ hj _ (by rfl)⟩
    rw [List.getElem?_map, hj]
    rfl
end Go.Proofs.Ytpbafmdebflbpaa
