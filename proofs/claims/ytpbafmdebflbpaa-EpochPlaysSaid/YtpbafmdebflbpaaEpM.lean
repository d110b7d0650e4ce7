/- epoch: the model by itself; a step and a deed of a thread by it. -/
import Derived.Test.YtpbafmdebflbpaaEpG
import Derived.Test.YtpbafmdebflbpaaThr
namespace Go.Proofs.Ytpbafmdebflbpaa
open Go.RowKit

structure EM where
  ep : Int
  ths : List Int
  waits : List (Int × Int)
  freed : List (Int × Int)
def EM.start (N : Nat) : EM := ⟨0, List.replicate N (-1), [], []⟩
def EM.next (m : EM) (i : Int) : Int × EM :=
  if m.ths.any (late m.ep) = true then (8, m)
  else (0, ⟨m.ep + 1, m.ths, ekept (m.ep + 1) m.waits, m.freed ++ egone (m.ep + 1) i m.waits⟩)
def EM.thr (m : EM) (k : Int) (who : Nat) (it : Int) : Int × EM :=
  if (m.ths.getD who 0 != -1) = (k == 1) then (8, m)
  else if k = 1 then (0, { m with ths := m.ths.set who m.ep })
  else if k = 2 then (0, { m with ths := m.ths.set who (-1) })
  else if 100 ≤ m.waits.length then (6, m)
  else (0, { m with waits := m.waits ++ [(it, m.ep)] })
def EM.does (m : EM) (k who it i : Int) : Int × EM :=
  if k = 4 then m.next i
  else if k < 1 ∨ 4 < k then (5, m)
  else if who < 0 ∨ (m.ths.length : Int) ≤ who then (2, m)
  else m.thr k who.toNat it
def EM.at (m : EM) (l : List Deed) : Nat → List Int × EM
  | 0 => ([], m)
  | k + 1 => ((EM.at m l k).1 ++ [((EM.at m l k).2.does (l.getD k (0, 0, 0)).1 (l.getD k (0, 0, 0)).2.1 (l.getD k (0, 0, 0)).2.2 k).1],
      ((EM.at m l k).2.does (l.getD k (0, 0, 0)).1 (l.getD k (0, 0, 0)).2.1 (l.getD k (0, 0, 0)).2.2 k).2)

structure EM.Ok (m : EM) (N k : Nat) : Prop where
  len : m.ths.length = N
  ep0 : 0 ≤ m.ep
  epk : m.ep ≤ k
  all : m.freed.length + m.waits.length ≤ k
  lo : ∀ x ∈ m.ths, -1 ≤ x
  hi : ∀ x ∈ m.ths, x ≤ m.ep
  since : ∀ p ∈ m.waits, 0 ≤ p.2 ∧ p.2 ≤ m.ep

theorem ekept_egone (ep i : Int) (l : List (Int × Int)) : (egone ep i l).length + (ekept ep l).length = l.length := by
  unfold egone ekept
  rw [List.length_map]
  induction l with
  | nil => rfl
  | cons a l ih => by_cases h : eold ep a = true <;> simp [h] <;> omega

theorem EM.Ok.does {m : EM} {N k : Nat} (h : m.Ok N k) (ki who it i : Int) : (m.does ki who it i).2.Ok N (k + 1) := by
  obtain ⟨h1, h2, h3, h4, h5, h6, h7⟩ := h
  have same : m.Ok N (k + 1) := ⟨h1, h2, by omega, by omega, h5, h6, h7⟩
  have hset : ∀ (j : Nat) (y : Int), -1 ≤ y → ∀ x ∈ m.ths.set j y, -1 ≤ x := fun j y hy x hx => by
    rcases List.mem_or_eq_of_mem_set hx with h | h
    · exact h5 x h
    · omega
  have hset2 : ∀ (j : Nat) (y : Int), y ≤ m.ep → ∀ x ∈ m.ths.set j y, x ≤ m.ep := fun j y hy x hx => by
    rcases List.mem_or_eq_of_mem_set hx with h | h
    · exact h6 x h
    · omega
  unfold EM.does
  split
  · unfold EM.next
    split
    · exact same
    · have := ekept_egone (m.ep + 1) i m.waits
      exact ⟨h1, by show 0 ≤ m.ep + 1; omega, by show m.ep + 1 ≤ ((k + 1 : Nat) : Int); omega, by simp only [List.length_append]; omega, h5, fun x hx => by have := h6 x hx; show x ≤ m.ep + 1; omega, fun p hp => by have := h7 p (List.mem_filter.1 hp).1; show _ ∧ p.2 ≤ m.ep + 1; omega⟩
  · split
    · exact same
    · split
      · exact same
      · unfold EM.thr
        split
        · exact same
        · split
          · exact ⟨by simpa using h1, h2, by show m.ep ≤ ((k + 1 : Nat) : Int); omega, by show m.freed.length + m.waits.length ≤ k + 1; omega, hset _ _ (by omega), hset2 _ _ (by omega), h7⟩
          · split
            · exact ⟨by simpa using h1, h2, by show m.ep ≤ ((k + 1 : Nat) : Int); omega, by show m.freed.length + m.waits.length ≤ k + 1; omega, hset _ _ (by omega), hset2 _ _ (by omega), h7⟩
            · split
              · exact same
              · exact ⟨h1, h2, by show m.ep ≤ ((k + 1 : Nat) : Int); omega, by simp only [List.length_append, List.length_singleton]; omega, h5, h6, fun p hp => by
                  rcases List.mem_append.1 hp with h | h
                  · exact h7 p h
                  · simp at h; subst h; exact ⟨h2, Int.le_refl _⟩⟩

theorem EM.at_ok (N : Nat) (l : List Deed) (k : Nat) : (EM.at (EM.start N) l k).2.Ok N k ∧ (EM.at (EM.start N) l k).1.length = k := by
  induction k with
  | zero => exact ⟨⟨by simp [EM.at, EM.start], by simp [EM.at, EM.start], by simp [EM.at, EM.start], by simp [EM.at, EM.start], by intro x hx; simp [EM.at, EM.start] at hx; omega, by intro x hx; simp [EM.at, EM.start] at hx ⊢; omega, by intro x hx; simp [EM.at, EM.start] at hx⟩, rfl⟩
  | succ k ih => exact ⟨ih.1.does _ _ _ _, by simp [EM.at, ih.2]⟩

def Ez.abs (s : Ez) : EM := ⟨s.ep, s.ths, s.waits, s.freed⟩

theorem estep_any (w : World) (s : Ez) (by_ : Int) (N k : Nat) (hs : s.item.P w) (hn : s.nt ≤ 100) (hok : s.abs.Ok N k) (hk : k ≤ 100) (hw : s.nw = s.waits.length) :
    Calls Try.prog 71 #[.pointer (some ⟨s.gw, 0, none⟩), .int .i64 by_] w fun e w' => ∃ s' : Ez, e = .returned (.int .i64 (s.abs.next by_).1) ∧ s'.abs = (s.abs.next by_).2 ∧ s'.gw = s.gw ∧ Sep s.item.fp w w' [s'.item] := by
  obtain ⟨h1, h2, h3, h4, _, _, _⟩ := hok
  have h2 : 0 ≤ s.ep := h2
  have h3 : s.ep ≤ k := h3
  have h4 : s.freed.length + s.waits.length ≤ k := h4
  cases hq : s.ths.any (late s.ep) with
  | true =>
    have e : s.abs.next by_ = (8, s.abs) := by unfold EM.next; rw [if_pos (show s.abs.ths.any (late s.abs.ep) = true from hq)]
    rw [e]
    refine (estep_late w s by_ hs hn hq).mono ?_
    rintro e w1 ⟨rfl, hS⟩
    exact ⟨s, rfl, rfl, rfl, hS⟩
  | false =>
    have e : s.abs.next by_ = (0, ⟨s.ep + 1, s.ths, ekept (s.ep + 1) s.waits, s.freed ++ egone (s.ep + 1) by_ s.waits⟩) := by
      unfold EM.next
      rw [if_neg (show ¬ s.abs.ths.any (late s.abs.ep) = true by show ¬ s.ths.any (late s.ep) = true; rw [hq]; simp)]
      rfl
    rw [e]
    refine (estep_ok w s by_ hs hn h2 (by omega) (by omega) (by omega) hq).mono ?_
    rintro e w1 ⟨Aw, nw, cw, Af, nf, cf, rfl, hS⟩
    refine ⟨_, rfl, ?_, ?_, hS⟩ <;> rfl

theorem edoes_any (w : World) (s : Ez) (kind it : Int) (k : Nat) (hs : s.item.P w) (hk : k < s.nt) (hl : s.ths.length = s.nt) (hkd : kind = 1 ∨ kind = 2 ∨ kind = 3) (hw : s.nw = s.waits.length) (hw2 : s.nw ≤ 100) :
    Calls Try.prog 72 #[.pointer (some ⟨s.gw, 0, none⟩), edeed kind k it] w fun e w' => ∃ s' : Ez, e = .returned (.int .i64 (s.abs.thr kind k it).1) ∧ s'.abs = (s.abs.thr kind k it).2 ∧ s'.gw = s.gw ∧ Sep s.item.fp w w' [s'.item] := by
  obtain ⟨x, hx⟩ : ∃ x, s.ths[k]? = some x := ⟨_, List.getElem?_eq_getElem (by omega)⟩
  have hxd : s.abs.ths.getD k 0 = x := by show s.ths.getD k 0 = x; rw [List.getD_eq_getElem?_getD, hx]; rfl
  by_cases hq : (x != -1) = (kind == 1)
  · have e : s.abs.thr kind k it = (8, s.abs) := by unfold EM.thr; rw [hxd, if_pos hq]
    rw [e]
    refine (edoes_hold w s kind it k x hs hk hx hq).mono ?_
    rintro e w1 ⟨rfl, hS⟩
    exact ⟨s, rfl, rfl, rfl, hS⟩
  rcases hkd with rfl | rfl | rfl
  · have e : s.abs.thr 1 k it = (0, ⟨s.ep, s.ths.set k s.ep, s.waits, s.freed⟩) := by unfold EM.thr; rw [hxd, if_neg hq, if_pos rfl]; rfl
    rw [e]
    obtain rfl : x = -1 := by
      rcases Int.lt_trichotomy x (-1) with h | h | h
      · exact absurd (by simp; omega) hq
      · exact h
      · exact absurd (by simp; omega) hq
    refine (edoes_enter w s it k hs hk hx).mono ?_
    rintro e w1 ⟨rfl, hS⟩
    refine ⟨_, rfl, ?_, ?_, hS⟩ <;> rfl
  · have h1 : (x != -1) = true := by
      cases h : (x != -1) with
      | true => rfl
      | false => exact absurd (by rw [h]; rfl) hq
    have e : s.abs.thr 2 k it = (0, ⟨s.ep, s.ths.set k (-1), s.waits, s.freed⟩) := by unfold EM.thr; rw [hxd, if_neg hq, if_neg (by omega), if_pos rfl]; rfl
    rw [e]
    refine (edoes_leave w s it x k hs hk hx h1).mono ?_
    rintro e w1 ⟨rfl, hS⟩
    refine ⟨_, rfl, ?_, ?_, hS⟩ <;> rfl
  · have h1 : (x != -1) = true := by
      cases h : (x != -1) with
      | true => rfl
      | false => exact absurd (by rw [h]; rfl) hq
    by_cases hf : 100 ≤ s.waits.length
    · have e : s.abs.thr 3 k it = (6, s.abs) := by
        unfold EM.thr; rw [hxd, if_neg hq, if_neg (by omega), if_neg (by omega), if_pos (show 100 ≤ s.abs.waits.length from hf)]
      rw [e]
      refine (edoes_full w s it x k hs hk hx h1 (by omega)).mono ?_
      rintro e w1 ⟨rfl, hS⟩
      exact ⟨s, rfl, rfl, rfl, hS⟩
    · have e : s.abs.thr 3 k it = (0, ⟨s.ep, s.ths, s.waits ++ [(it, s.ep)], s.freed⟩) := by
        unfold EM.thr; rw [hxd, if_neg hq, if_neg (by omega), if_neg (by omega), if_neg (show ¬ 100 ≤ s.abs.waits.length from hf)]; rfl
      rw [e]
      refine (edoes_retire w s it x k hs hk hx h1 (by omega)).mono ?_
      rintro e w1 ⟨A, n, c, rfl, hS⟩
      refine ⟨_, rfl, ?_, ?_, hS⟩ <;> rfl
end Go.Proofs.Ytpbafmdebflbpaa
