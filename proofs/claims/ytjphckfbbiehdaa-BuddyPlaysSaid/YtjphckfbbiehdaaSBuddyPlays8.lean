/- Halves of halves, plain: what is taken and given back; the program's maps are told by the words. Halves of halves, plain: a script's step, as the reference does it; what holds stays. Halves of halves, plain: maps by level; pieces split and joined as numbers. -/
import Derived.Test.YtjphckfbbiehdaaSBuddyPlays7
set_option linter.unusedSimpArgs false
set_option linter.unusedVariables false
namespace Go.Proofs.Ytjphckfbbiehdaa
def mxB (tk : List Bool) (L k q : Nat) : Bool := decide (k ≤ L) && AFb tk k q && !(decide (k < L) && AFb tk (k + 1) (q / 2))
theorem mxB_iff {tk : List Bool} {L k q : Nat} : mxB tk L k q = true ↔ Mx tk L k q := by
  unfold mxB
  rw [Bool.and_eq_true, Bool.and_eq_true, AFb_iff, decide_eq_true_iff, Bool.not_eq_true', Bool.and_eq_false_imp]
  constructor
  · rintro ⟨⟨h1, h2⟩, h3⟩
    exact ⟨h1, h2, fun h h4 => by have := h3 (decide_eq_true h); rw [AFb_iff.2 h4] at this; cases this⟩
  · rintro ⟨h1, h2, h3⟩
    refine ⟨⟨h1, h2⟩, fun h => ?_⟩
    cases h4 : AFb tk (k + 1) (q / 2) with
    | false => rfl
    | true => exact absurd (AFb_iff.1 h4) (h3 (of_decide_eq_true h))
/-- The map of a level: the places of its pieces. -/
def frO (tk : List Bool) (L k : Nat) : Int → Option Nat := fun x => if 0 ≤ x ∧ x.toNat % 2 ^ k = 0 ∧ mxB tk L k (x.toNat / 2 ^ k) = true then some 1 else none
theorem frO_some {tk : List Bool} {L k : Nat} {x : Int} {m : Nat} : frO tk L k x = some m ↔ m = 1 ∧ ∃ q : Nat, x = ((q * 2 ^ k : Nat) : Int) ∧ Mx tk L k q := by
  unfold frO
  constructor
  · intro h
    split at h
    · rename_i hc
      injection h with h
      refine ⟨h.symm, x.toNat / 2 ^ k, ?_, mxB_iff.1 hc.2.2⟩
      have := Nat.div_add_mod x.toNat (2 ^ k)
      rw [hc.2.1, Nat.add_zero, Nat.mul_comm] at this
      rw [this]; omega
    · cases h
  · rintro ⟨rfl, q, rfl, hm⟩
    rw [if_pos ⟨by omega, by rw [Int.toNat_natCast]; exact Nat.mul_mod_left .., by rw [Int.toNat_natCast, Nat.mul_div_cancel _ (Nat.two_pow_pos k)]; exact mxB_iff.2 hm⟩]
theorem opt_ext {f g : Int → Option Nat} (h : ∀ x m, f x = some m ↔ g x = some m) : f = g := by
  funext x
  cases hf : f x with
  | some m => exact ((h x m).1 hf).symm
  | none =>
    cases hg : g x with
    | none => rfl
    | some m => rw [(h x m).2 hg] at hf; cases hf
/-- Which level a piece has that is taken. -/
def lvOf (n : Nat) : Nat := n.log2
theorem lvOf_pow (k : Nat) : lvOf (2 ^ k) = k := Nat.log2_two_pow
def taO (pl : List (Int × Nat)) : Int → Option Nat := fun x => if 0 ≤ x then (pl.find? fun e => e.1 == x).map fun e => lvOf e.2 else none
structure BdOk (L : Nat) (y : FyA) : Prop where
  len : y.tk.length = 2 ^ L
  pc : ∀ (i : Nat) (e : Int × Nat), y.pl[i]? = some e → 0 ≤ e.1 → ∃ k q : Nat, e = (((q * 2 ^ k : Nat) : Int), 2 ^ k) ∧ k ≤ L ∧ q < 2 ^ (L - k) ∧ ∀ x, x / 2 ^ k = q → y.tk.getD x true = true
  apart : ∀ (i j : Nat) (e d : Int × Nat), y.pl[i]? = some e → y.pl[j]? = some d → 0 ≤ e.1 → 0 ≤ d.1 → i ≠ j → e.1.toNat + e.2 ≤ d.1.toNat ∨ d.1.toNat + d.2 ≤ e.1.toNat
  neg : ∀ e ∈ y.pl, -1 ≤ e.1
theorem in_piece {x k q : Nat} : x / 2 ^ k = q ↔ q * 2 ^ k ≤ x ∧ x < q * 2 ^ k + 2 ^ k := by
  rw [Nat.div_eq_iff (Nat.two_pow_pos k)]
  have := Nat.two_pow_pos k
  omega
theorem pow_num {L k q : Nat} (hk : k ≤ L) (hq : q < 2 ^ (L - k)) : q * 2 ^ k + 2 ^ k ≤ 2 ^ L := by
  have h := Nat.mul_le_mul_right (2 ^ k) hq
  rw [← Nat.pow_add, show L - k + k = L by omega, Nat.succ_mul] at h
  exact h
theorem get_app {α : Type} {l : List α} {a e : α} {k : Nat} (he : (l ++ [a])[k]? = some e) : l[k]? = some e ∨ (k = l.length ∧ e = a) := by
  rcases Nat.lt_or_ge k l.length with h1 | h1
  · rw [List.getElem?_append_left h1] at he; exact .inl he
  · rw [List.getElem?_append_right h1] at he
    have h2 : k - l.length = 0 := by
      rcases Nat.eq_zero_or_pos (k - l.length) with h2 | h2
      · exact h2
      · rw [List.getElem?_eq_none (by rw [List.length_singleton]; omega)] at he; cases he
    rw [h2] at he
    injection he with he
    exact .inr ⟨by omega, he.symm⟩
/-- A piece of level need is taken, of a free one of level K. -/
theorem BdOk.take {L K q need : Nat} {y : FyA} (h : BdOk L y) (hm : Mx y.tk L K q) (hn : need ≤ K) : BdOk L (y.take (q * 2 ^ K, 2 ^ K) (2 ^ need)) ∧
    (∀ j, frO (y.take (q * 2 ^ K, 2 ^ K) (2 ^ need)).tk L j = fun x => if j = K ∧ x = ((q * 2 ^ K : Nat) : Int) then none else if need ≤ j ∧ j < K ∧ x = ((q * 2 ^ K + 2 ^ j : Nat) : Int) then some 1 else frO y.tk L j x) ∧
    taO (y.take (q * 2 ^ K, 2 ^ K) (2 ^ need)).pl = fun x => if x = ((q * 2 ^ K : Nat) : Int) then some need else taO y.pl x := by
  have hp := hm.le
  have hnum := (hm.af.num h.len hp).1
  have hfit := pow_num hp hnum
  have e0 : q * 2 ^ K = (q * 2 ^ (K - need)) * 2 ^ need := by rw [Nat.mul_assoc, ← Nat.pow_add, show K - need + need = K by omega]
  have hle : 2 ^ need ≤ 2 ^ K := Nat.pow_le_pow_right (by omega) hn
  have hsub : ∀ x, x / 2 ^ need = q * 2 ^ (K - need) → x / 2 ^ K = q := fun x hx => by rw [in_piece]; rw [in_piece, ← e0] at hx; omega
  have hs : SetP y.tk (setTk y.tk (q * 2 ^ K) (2 ^ need) true) need (q * 2 ^ (K - need)) true := by
    have h1 := setTk_piece (tk := y.tk) (k := need) (q := q * 2 ^ (K - need)) (b := true) fun x hx => hm.af.lt x (hsub x hx)
    rw [← e0] at h1
    exact h1
  have hsp := hm.split (K - need) need (by omega) _ hs
  have hap : ∀ (k : Nat) (e : Int × Nat), y.pl[k]? = some e → 0 ≤ e.1 → e.1.toNat + e.2 ≤ q * 2 ^ K ∨ q * 2 ^ K + 2 ^ need ≤ e.1.toNat := fun k e he h1 => by
    obtain ⟨j, r, rfl, hj, hr, hx⟩ := h.pc k e he h1
    rw [Int.toNat_natCast]
    dsimp only
    have hjp := Nat.two_pow_pos j
    have hKp := Nat.two_pow_pos K
    rcases Nat.lt_or_ge (q * 2 ^ K) (r * 2 ^ j + 2 ^ j) with h2 | h2
    · refine .inr ?_
      rcases Nat.lt_or_ge (r * 2 ^ j) (q * 2 ^ K + 2 ^ need) with h3 | h3
      · exfalso
        obtain ⟨s, s1, s2, s3⟩ : ∃ s, r * 2 ^ j ≤ s ∧ q * 2 ^ K ≤ s ∧ (s = r * 2 ^ j ∨ s = q * 2 ^ K) := by
          rcases Nat.le_total (r * 2 ^ j) (q * 2 ^ K) with h6 | h6
          · exact ⟨_, h6, Nat.le_refl _, .inr rfl⟩
          · exact ⟨_, Nat.le_refl _, h6, .inl rfl⟩
        have h4 := hx s (in_piece.2 ⟨s1, by rcases s3 with h6 | h6 <;> omega⟩)
        have h5 := hm.af s (in_piece.2 ⟨s2, by rcases s3 with h6 | h6 <;> omega⟩)
        unfold wF at h5
        rw [h4] at h5
        cases h5
      · exact h3
    · exact .inl h2
  have hset : ∀ x, x < 2 ^ L → y.tk.getD x true = true ∨ (q * 2 ^ K ≤ x ∧ x < q * 2 ^ K + 2 ^ need) → (setTk y.tk (q * 2 ^ K) (2 ^ need) true).getD x true = true := fun x hx h3 => by
    rw [setTk_at _ _ _ _ _ (by rw [h.len]; exact hx)]
    split
    · rfl
    · rename_i h4; exact h3.resolve_right h4
  unfold FyA.take
  dsimp only
  refine ⟨⟨(setTk_len ..).trans h.len, fun i e he h1 => ?_, fun k j e d he hd h1 h2 hkj => ?_, fun e he => ?_⟩, fun j => ?_, ?_⟩
  · rcases get_app he with h2 | ⟨rfl, rfl⟩
    · obtain ⟨j, r, e1, hj, hr, hx⟩ := h.pc i e h2 h1
      exact ⟨j, r, e1, hj, hr, fun x h3 => hset x (by have := pow_num hj hr; have := in_piece.1 h3; omega) (.inl (hx x h3))⟩
    · refine ⟨need, q * 2 ^ (K - need), by rw [← e0], by omega, ?_, fun x h3 => hset x ?_ (.inr ?_)⟩
      · have h5 := (hm.af.within hn (q := q * 2 ^ (K - need)) (by exact Nat.mul_div_cancel _ (Nat.two_pow_pos _))).num h.len (by omega)
        exact h5.1
      · have := in_piece.1 h3
        rw [← e0] at this
        omega
      · have := in_piece.1 h3
        rw [← e0] at this
        exact this
  · rcases get_app he with h3 | ⟨rfl, rfl⟩
    · rcases get_app hd with h4 | ⟨rfl, rfl⟩
      · exact h.apart k j e d h3 h4 h1 h2 hkj
      · have := hap k e h3 h1
        dsimp only
        omega
    · rcases get_app hd with h4 | ⟨rfl, rfl⟩
      · have := hap j d h4 h2
        dsimp only
        omega
      · exact absurd rfl hkj
  · rcases List.mem_append.1 he with h1 | h1
    · exact h.neg e h1
    · rw [List.mem_singleton.1 h1]; dsimp only; omega
  · refine opt_ext fun x m => ?_
    rw [frO_some]
    have hpj := Nat.two_pow_pos j
    by_cases h1 : j = K ∧ x = ((q * 2 ^ K : Nat) : Int)
    · rw [if_pos h1]
      constructor
      · rintro ⟨_, r, hx, hr⟩
        obtain ⟨rfl, h2⟩ := h1
        rcases (hsp j r).1 hr with h3 | h3
        · refine absurd ⟨rfl, ?_⟩ h3.2
          rw [h2] at hx
          exact (Nat.eq_of_mul_eq_mul_right hpj (by omega)).symm
        · omega
      · intro h; cases h
    · rw [if_neg h1]
      by_cases h2 : need ≤ j ∧ j < K ∧ x = ((q * 2 ^ K + 2 ^ j : Nat) : Int)
      · rw [if_pos h2]
        obtain ⟨h3, h4, rfl⟩ := h2
        have ex : q * 2 ^ K + 2 ^ j = (q * 2 ^ (K - j) + 1) * 2 ^ j := by
          rw [Nat.add_mul, Nat.one_mul, Nat.mul_assoc, ← Nat.pow_add, show K - j + j = K by omega]
        constructor
        · rintro ⟨rfl, _⟩; rfl
        · intro h5
          injection h5 with h5
          exact ⟨h5.symm, q * 2 ^ (K - j) + 1, by rw [ex], (hsp j _).2 (.inr ⟨h3, h4, rfl⟩)⟩
      · rw [if_neg h2, frO_some]
        refine and_congr Iff.rfl ?_
        constructor
        · rintro ⟨r, rfl, hr⟩
          rcases (hsp j r).1 hr with h3 | ⟨h3, h4, rfl⟩
          · exact ⟨r, rfl, h3.1⟩
          · refine absurd ⟨h3, h4, ?_⟩ h2
            rw [Nat.add_mul, Nat.one_mul, Nat.mul_assoc, ← Nat.pow_add, show K - j + j = K by omega]
        · rintro ⟨r, rfl, hr⟩
          refine ⟨r, rfl, (hsp j r).2 (.inl ⟨hr, ?_⟩)⟩
          rintro ⟨rfl, rfl⟩
          exact h1 ⟨rfl, rfl⟩
  · funext x
    unfold taO
    by_cases hx : x = ((q * 2 ^ K : Nat) : Int)
    · rw [if_pos hx, if_pos (by omega), List.find?_append]
      have hno : y.pl.find? (fun e => e.1 == x) = none := by
        rw [List.find?_eq_none]
        intro e he h2
        obtain ⟨i, hi, rfl⟩ := List.getElem_of_mem he
        have h3 : y.pl[i].1 = x := by simpa using h2
        have h4 := hap i _ (List.getElem?_eq_getElem hi) (by omega)
        obtain ⟨j, r, e1, _⟩ := h.pc i _ (List.getElem?_eq_getElem hi) (by omega)
        have hjp := Nat.two_pow_pos j
        have hnp := Nat.two_pow_pos need
        rw [h3, hx, Int.toNat_natCast, e1] at h4
        dsimp only at h4
        omega
      rw [hno, Option.none_or, List.find?_cons]
      have e2 : ((((q * 2 ^ K : Nat) : Int)) == x) = true := by simp [hx]
      rw [e2]
      dsimp only [Option.map]
      rw [lvOf_pow]
    · rw [if_neg hx]
      by_cases h0 : 0 ≤ x
      · rw [if_pos h0, if_pos h0, List.find?_append, List.find?_cons, List.find?_nil]
        have e2 : ((((q * 2 ^ K : Nat) : Int)) == x) = false := by simpa using fun h => hx h.symm
        rw [e2, Option.or_none]
      · rw [if_neg h0, if_neg h0]
/-- A piece is given back. -/
theorem find_findIdx {pl : List (Int × Nat)} {x : Int} {i : Nat} (h : pl.findIdx? (fun e => e.1 == x) = some i) : pl.find? (fun e => e.1 == x) = pl[i]? ∧ i < pl.length := by
  rw [List.findIdx?_eq_some_iff_getElem] at h
  obtain ⟨hi, h1, h2⟩ := h
  refine ⟨?_, hi⟩
  rw [List.getElem?_eq_getElem hi, List.find?_eq_some_iff_getElem]
  exact ⟨h1, i, hi, rfl, fun j hj => by simpa using h2 j hj⟩
theorem BdOk.give {L : Nat} {y : FyA} (h : BdOk L y) {x : Int} {k : Nat} (hx : taO y.pl x = some k) : ∃ i q : Nat, y.find x = some i ∧ x = ((q * 2 ^ k : Nat) : Int) ∧ k ≤ L ∧ BdOk L (y.give i) ∧ SetP (y.give i).tk y.tk k q true ∧ AF (y.give i).tk k q ∧ (y.give i).last = y.last ∧ taO (y.give i).pl = delO (taO y.pl) x := by
  unfold taO at hx
  split at hx
  · rename_i h0
    cases hf : y.find x with
    | none =>
      unfold FyA.find at hf
      rw [List.findIdx?_eq_none_iff] at hf
      have : y.pl.find? (fun e => e.1 == x) = none := by
        rw [List.find?_eq_none]
        exact fun e he => by rw [hf e he]; simp
      rw [this] at hx
      cases hx
    | some i =>
      obtain ⟨g1, g2⟩ := find_findIdx hf
      obtain ⟨hi, hix⟩ := FyA.find_some hf
      rw [g1, List.getElem?_eq_getElem g2] at hx
      obtain ⟨e, he⟩ : ∃ e, y.pl[i] = e := ⟨_, rfl⟩
      have hg : y.pl[i]? = some e := by rw [List.getElem?_eq_getElem g2, he]
      have hd : y.pl.getD i (0, 0) = e := by rw [List.getD_eq_getElem?_getD, hg]; rfl
      rw [hd] at hix
      rw [he] at hx
      injection hx with hx
      obtain ⟨k', q, e1, hk, hq, hall⟩ := h.pc i e hg (by omega)
      rw [e1] at hx hix
      dsimp only at hx hix
      rw [lvOf_pow] at hx
      subst hx
      have hgv : y.give i = ⟨setTk y.tk (q * 2 ^ k') (2 ^ k') false, y.pl.set i (-1, 2 ^ k'), y.last⟩ := by
        unfold FyA.give
        rw [hd, e1]
        dsimp only
        rw [Int.toNat_natCast]
      have hfit := pow_num hk hq
      have hS : SetP y.tk (setTk y.tk (q * 2 ^ k') (2 ^ k') false) k' q false := setTk_piece fun x hx => by rw [h.len]; have := in_piece.1 hx; omega
      have hset : ∀ (j : Nat) (d : Int × Nat), (y.pl.set i (-1, 2 ^ k'))[j]? = some d → 0 ≤ d.1 → j ≠ i ∧ y.pl[j]? = some d := fun j d hd h2 => by
        rw [List.getElem?_set] at hd
        split at hd
        · exfalso
          injection hd with hd
          rw [← hd] at h2
          dsimp only at h2
          omega
        · rename_i h3
          exact ⟨fun h4 => h3 h4.symm, hd⟩
      refine ⟨i, q, rfl, hix.symm, hk, ?_⟩
      rw [hgv]
      refine ⟨⟨(setTk_len ..).trans h.len, fun j d hd h1 => ?_, fun a b d1 d2 h1 h2 h3 h4 hab => h.apart a b d1 d2 (hset a d1 h1 h3).2 (hset b d2 h2 h4).2 h3 h4 hab, fun d hd => ?_⟩, ⟨fun x hx => hall x hx, fun x hx => (hS.no x hx).symm⟩, fun x hx => hS.yes x hx, rfl, ?_⟩
      · obtain ⟨h2, h3⟩ := hset j d hd h1
        obtain ⟨k2, q2, e2, hk2, hq2, hall2⟩ := h.pc j d h3 h1
        refine ⟨k2, q2, e2, hk2, hq2, fun x hx => ?_⟩
        have hap := h.apart i j e d hg h3 (by rw [e1]; dsimp only; omega) h1 (Ne.symm h2)
        rw [e1, e2] at hap
        dsimp only at hap
        rw [Int.toNat_natCast, Int.toNat_natCast] at hap
        show (setTk y.tk (q * 2 ^ k') (2 ^ k') false).getD x true = true
        rw [hS.no x (by intro h5; have := in_piece.1 h5; have := in_piece.1 hx; omega)]
        exact hall2 x hx
      · rcases List.mem_or_eq_of_mem_set hd with h2 | h2
        · exact h.neg d h2
        · rw [h2]; exact Int.le_refl _
      · funext z
        unfold delO taO
        by_cases hz : z = x
        · rw [if_pos hz]
          have : (y.pl.set i (-1, 2 ^ k')).find? (fun e => e.1 == z) = none := by
            rw [List.find?_eq_none]
            intro d hd h2
            have h3 : d.1 = z := by simpa using h2
            obtain ⟨j, hj, rfl⟩ := List.getElem_of_mem hd
            obtain ⟨h4, h5⟩ := hset j _ (List.getElem?_eq_getElem hj) (by omega)
            have hap := h.apart i j e _ hg h5 (by rw [e1]; dsimp only; omega) (by omega) (Ne.symm h4)
            obtain ⟨k2, q2, e2, _⟩ := h.pc j _ h5 (by omega)
            have p1 := Nat.two_pow_pos k2
            have p2 := Nat.two_pow_pos k'
            rw [h3, hz, ← hix, e1, e2] at hap
            dsimp only at hap
            omega
          rw [this]
          split <;> rfl
        · rw [if_neg hz]
          by_cases h0z : 0 ≤ z
          · rw [if_pos h0z, if_pos h0z]
            congr 1
            have key : ∀ (l : List (Int × Nat)) (i : Nat), (∀ d, l[i]? = some d → d.1 ≠ z) → (l.set i (-1, 2 ^ k')).find? (fun e => e.1 == z) = l.find? (fun e => e.1 == z) := by
              intro l
              induction l with
              | nil => intro i _; rfl
              | cons d l ih =>
                intro i hd
                cases i with
                | zero =>
                  have h1 := hd d rfl
                  rw [List.set_cons_zero, List.find?_cons, List.find?_cons]
                  have e3 : ((-1 : Int) == z) = false := by simp; omega
                  have e4 : (d.1 == z) = false := by simpa using h1
                  rw [e3, e4]
                | succ i =>
                  rw [List.set_cons_succ, List.find?_cons, List.find?_cons, ih i fun d h => hd d h]
            exact key _ _ fun d hd => by rw [hg] at hd; injection hd with hd; rw [← hd, e1]; dsimp only; omega
          · rw [if_neg h0z, if_neg h0z]
  · cases hx
theorem BdOk.give_no {y : FyA} {x : Int} (hx : taO y.pl x = none) (h0 : 0 ≤ x) : y.find x = none := by
  unfold taO at hx
  rw [if_pos h0, Option.map_eq_none_iff, List.find?_eq_none] at hx
  unfold FyA.find
  rw [List.findIdx?_eq_none_iff]
  intro e he
  have := hx e he
  simpa using this
end Go.Proofs.Ytjphckfbbiehdaa

namespace Go.Proofs.Ytjphckfbbiehdaa
def needF (n : Nat) : Nat → Nat → Nat
  | 0, k => k
  | f + 1, k => if 2 ^ k < n then needF n f (k + 1) else k
def needN (n : Nat) : Nat := needF n n 0
theorem needF_ok {n : Nat} : ∀ (f k : Nat), k + f = n → (∀ j, j < k → 2 ^ j < n) → NeedOk n (needF n f k)
  | 0, k, h, hk => by
    unfold needF
    refine ⟨?_, hk⟩
    have := @Nat.lt_two_pow_self k
    omega
  | f + 1, k, h, hk => by
    unfold needF
    split
    · rename_i h1
      exact needF_ok f (k + 1) (by omega) fun j hj => by
        rcases Nat.lt_or_ge j k with h2 | h2
        · exact hk j h2
        · obtain rfl : j = k := by omega
          exact h1
    · exact ⟨by omega, hk⟩
theorem needN_ok (n : Nat) : NeedOk n (needN n) := needF_ok n 0 (by omega) (fun j hj => by omega)
theorem NeedOk.uniq {n a b : Nat} (h : NeedOk n a) (h2 : NeedOk n b) : a = b := Nat.le_antisymm (h.min h2.le) (h2.min h.le)
def fbStep (L : Nat) (q : Int × Int) (y : FyA) : (Int × Int) × FyA :=
  if q.1 = 1 then
    if q.2 < 1 ∨ ((2 ^ L : Nat) : Int) < q.2 then ((3, 0), y)
    else match pickK (pcs y.tk L 0) q.2.toNat 2 y.last (pcs y.tk L 0).length with
      | none => ((6, 0), y)
      | some i => ((0, (((pcs y.tk L 0).getD i (0, 0)).1 : Int)), y.take ((pcs y.tk L 0).getD i (0, 0)) (2 ^ needN q.2.toNat))
  else if q.1 = 2 then
    if 0 ≤ q.2 then
      match y.find q.2 with
      | none => ((2, 0), y)
      | some i => ((0, 0), y.give i)
    else ((2, 0), y)
  else ((5, 0), y)
theorem picked_mx {tk : List Bool} {L n last i : Nat} {p : Int} (hl : tk.length = 2 ^ L) (h : pickK (pcs tk L 0) n p last (pcs tk L 0).length = some i) : ∃ K q, (pcs tk L 0).getD i (0, 0) = (q * 2 ^ K, 2 ^ K) ∧ Mx tk L K q ∧ n ≤ 2 ^ K := by
  obtain ⟨p1, p2⟩ := pickK_some h
  have hmem : (pcs tk L 0).getD i (0, 0) ∈ pcs tk L 0 := by
    rw [List.getD_eq_getElem?_getD, List.getElem?_eq_getElem p1]; exact List.getElem_mem p1
  obtain ⟨K, q, e, hm⟩ := (pcs_mx hl _).1 hmem
  rw [e] at p2
  exact ⟨K, q, e, hm, p2⟩
theorem taO_find {y : FyA} {x : Int} {i : Nat} (h0 : 0 ≤ x) (h : y.find x = some i) : ∃ k, taO y.pl x = some k := by
  unfold taO
  rw [if_pos h0, (find_findIdx h).1, List.getElem?_eq_getElem (find_findIdx h).2]
  exact ⟨_, rfl⟩
theorem Mx.end_le {tk : List Bool} {L K q : Nat} (hl : tk.length = 2 ^ L) (h : Mx tk L K q) : q * 2 ^ K + 2 ^ K ≤ 2 ^ L := pow_num h.le (h.af.num hl h.le).1
structure BdS (L : Nat) (k : Nat) (y : FyA) : Prop where
  ok : BdOk L y
  last : y.last ≤ 2 ^ L
  pl : y.pl.length ≤ k
theorem BdS.step {L k : Nat} {y : FyA} (h : BdS L k y) (q : Int × Int) : BdS L (k + 1) (fbStep L q y).2 := by
  have same : BdS L (k + 1) y := ⟨h.ok, h.last, Nat.le_succ_of_le h.pl⟩
  unfold fbStep
  split
  · split
    · exact same
    · split
      · exact same
      · rename_i i hi
        obtain ⟨K, r, e, hm, hn⟩ := picked_mx h.ok.len hi
        dsimp only
        rw [e]
        have hmin := (needN_ok q.2.toNat).min hn
        have hend := hm.end_le h.ok.len
        have hle : 2 ^ needN q.2.toNat ≤ 2 ^ K := Nat.pow_le_pow_right (by omega) hmin
        refine ⟨(h.ok.take hm hmin).1, ?_, ?_⟩
        · show r * 2 ^ K + 2 ^ needN q.2.toNat ≤ 2 ^ L
          omega
        · show (y.pl ++ [_]).length ≤ k + 1
          rw [List.length_append]
          have := h.pl
          simpa using this
  · split
    · split
      · rename_i h0
        split
        · exact same
        · rename_i i hi
          obtain ⟨k', hk⟩ := taO_find h0 hi
          obtain ⟨i2, r, e1, _, _, h4, _, _, h5, _⟩ := h.ok.give hk
          rw [hi] at e1
          injection e1 with e1
          subst e1
          refine ⟨h4, by dsimp only; rw [h5]; exact h.last, ?_⟩
          show (y.pl.set _ _).length ≤ k + 1
          rw [List.length_set]
          exact Nat.le_succ_of_le h.pl
      · exact same
    · exact same
theorem bd0_ok (L : Nat) : BdS L 0 (fy0 (2 ^ L)) := ⟨⟨List.length_replicate .., fun i e he => (by cases he), fun i j e d he => (by cases he), fun e he => (by cases he)⟩, Nat.zero_le _, Nat.le_refl _⟩
theorem bd_run {L : Nat} (qs : List (Int × Int)) : ∀ k, k ≤ qs.length → BdS L k (runS (fbStep L) (qs.take k) (fy0 (2 ^ L))).2 ∧ (runS (fbStep L) (qs.take k) (fy0 (2 ^ L))).1.length = k
  | 0, _ => ⟨bd0_ok L, rfl⟩
  | k + 1, hk => by
    obtain ⟨h1, h2⟩ := bd_run qs k (by omega)
    rw [runS_at _ qs _ k (by omega)]
    exact ⟨h1.step _, by dsimp only; rw [List.length_append, h2]; rfl⟩
/-- How it begins: one piece, of all. -/
theorem mx_all {L j q : Nat} : Mx (List.replicate (2 ^ L) false) L j q ↔ j = L ∧ q = 0 := by
  have hw : ∀ x, wF (List.replicate (2 ^ L) false) x ↔ x < 2 ^ L := fun x => by
    unfold wF
    rw [List.getD_eq_getElem?_getD, List.getElem?_replicate]
    split <;> simp_all
  have haf : ∀ k, k ≤ L → ∀ q, AF (List.replicate (2 ^ L) false) k q ↔ q < 2 ^ (L - k) := fun k hk q => by
    constructor
    · intro h
      have := (hw _).1 (h _ (piece_has k q))
      rcases Nat.lt_or_ge q (2 ^ (L - k)) with h3 | h3
      · exact h3
      · have h4 := Nat.mul_le_mul_right (2 ^ k) h3
        rw [← Nat.pow_add, show L - k + k = L by omega] at h4
        omega
    · intro h x hx
      rw [hw]
      have h1 := pow_num hk h
      have h2 := in_piece.1 hx
      omega
  constructor
  · intro h
    have h1 := (haf j h.le q).1 h.af
    rcases Nat.lt_or_ge j L with h2 | h2
    · refine absurd ((haf (j + 1) h2 (q / 2)).2 ?_) (h.top h2)
      rw [show L - j = L - (j + 1) + 1 by omega, Nat.pow_succ] at h1
      omega
    · have := h.le
      obtain rfl : j = L := by omega
      rw [Nat.sub_self, Nat.pow_zero] at h1
      exact ⟨rfl, by omega⟩
  · rintro ⟨rfl, rfl⟩
    exact ⟨Nat.le_refl _, (haf j (Nat.le_refl _) 0).2 (by rw [Nat.sub_self]; exact Nat.one_pos), fun h => by omega⟩
theorem frO_all (L j : Nat) : frO (List.replicate (2 ^ L) false) L j = if j = L then putO (fun _ => none) 0 1 else fun _ => none := by
  refine opt_ext fun x m => ?_
  rw [frO_some]
  constructor
  · rintro ⟨rfl, q, rfl, hm⟩
    obtain ⟨rfl, rfl⟩ := mx_all.1 hm
    rw [if_pos rfl]
    unfold putO
    rw [if_pos (by simp)]
  · intro h
    split at h
    · rename_i hj
      unfold putO at h
      split at h
      · rename_i hx
        injection h with h
        exact ⟨h.symm, 0, by rw [hx, Nat.zero_mul]; rfl, mx_all.2 ⟨hj, rfl⟩⟩
      · cases h
    · cases h
end Go.Proofs.Ytjphckfbbiehdaa

namespace Go.Proofs.Ytjphckfbbiehdaa
def mapO (S : Nat → Nat → Bool) (j : Nat) : Int → Option Nat := fun x => if 0 ≤ x ∧ x.toNat % 2 ^ j = 0 ∧ S j (x.toNat / 2 ^ j) = true then some 1 else none
theorem mapO_congr {S T : Nat → Nat → Bool} (h : ∀ j x, S j x = true ↔ T j x = true) : mapO S = mapO T := by
  have : S = T := by
    funext j x
    have := h j x
    cases h1 : S j x <;> cases h2 : T j x <;> simp_all
  rw [this]
theorem mapO_some {S : Nat → Nat → Bool} {j : Nat} {x : Int} {m : Nat} : mapO S j x = some m ↔ m = 1 ∧ ∃ q : Nat, x = ((q * 2 ^ j : Nat) : Int) ∧ S j q = true := by
  unfold mapO
  constructor
  · intro h
    split at h
    · rename_i hc
      injection h with h
      refine ⟨h.symm, x.toNat / 2 ^ j, ?_, hc.2.2⟩
      have := Nat.div_add_mod x.toNat (2 ^ j)
      rw [hc.2.1, Nat.add_zero, Nat.mul_comm] at this
      rw [this]; omega
    · cases h
  · rintro ⟨rfl, q, rfl, hm⟩
    rw [if_pos ⟨by omega, by rw [Int.toNat_natCast]; exact Nat.mul_mod_left .., by rw [Int.toNat_natCast, Nat.mul_div_cancel _ (Nat.two_pow_pos j)]; exact hm⟩]
theorem mul_pow_inj {a b j : Nat} (h : a * 2 ^ j = b * 2 ^ j) : a = b := Nat.eq_of_mul_eq_mul_right (Nat.two_pow_pos j) h
theorem mapO_put (S : Nat → Nat → Bool) (k q j : Nat) : mapO (fun i x => if i = k ∧ x = q then true else S i x) j = if j = k then putO (mapO S j) ((q * 2 ^ k : Nat) : Int) 1 else mapO S j := by
  refine opt_ext fun x m => ?_
  rw [mapO_some]
  by_cases hj : j = k
  · subst hj
    rw [if_pos rfl]
    unfold putO
    by_cases hx : x = ((q * 2 ^ j : Nat) : Int)
    · rw [if_pos hx]
      constructor
      · rintro ⟨rfl, _⟩; rfl
      · intro h; injection h with h; exact ⟨h.symm, q, hx, by simp⟩
    · rw [if_neg hx, mapO_some]
      refine and_congr Iff.rfl ⟨fun ⟨r, h1, h2⟩ => ⟨r, h1, ?_⟩, fun ⟨r, h1, h2⟩ => ⟨r, h1, ?_⟩⟩
      · rw [if_neg (by rintro ⟨_, rfl⟩; exact hx h1)] at h2; exact h2
      · rw [if_neg (by rintro ⟨_, rfl⟩; exact hx h1)]; exact h2
  · rw [if_neg hj, mapO_some]
    refine and_congr Iff.rfl ⟨fun ⟨r, h1, h2⟩ => ⟨r, h1, ?_⟩, fun ⟨r, h1, h2⟩ => ⟨r, h1, ?_⟩⟩
    · rw [if_neg (fun h => hj h.1)] at h2; exact h2
    · rw [if_neg (fun h => hj h.1)]; exact h2
theorem mapO_del (S : Nat → Nat → Bool) (k q j : Nat) : mapO (fun i x => if i = k ∧ x = q then false else S i x) j = if j = k then delO (mapO S j) ((q * 2 ^ k : Nat) : Int) else mapO S j := by
  refine opt_ext fun x m => ?_
  rw [mapO_some]
  by_cases hj : j = k
  · subst hj
    rw [if_pos rfl]
    unfold delO
    by_cases hx : x = ((q * 2 ^ j : Nat) : Int)
    · rw [if_pos hx]
      constructor
      · rintro ⟨_, r, h1, h2⟩
        rw [if_pos ⟨rfl, mul_pow_inj (j := j) (by omega)⟩] at h2
        cases h2
      · intro h; cases h
    · rw [if_neg hx, mapO_some]
      refine and_congr Iff.rfl ⟨fun ⟨r, h1, h2⟩ => ⟨r, h1, ?_⟩, fun ⟨r, h1, h2⟩ => ⟨r, h1, ?_⟩⟩
      · rw [if_neg (by rintro ⟨_, rfl⟩; exact hx h1)] at h2; exact h2
      · rw [if_neg (by rintro ⟨_, rfl⟩; exact hx h1)]; exact h2
  · rw [if_neg hj, mapO_some]
    refine and_congr Iff.rfl ⟨fun ⟨r, h1, h2⟩ => ⟨r, h1, ?_⟩, fun ⟨r, h1, h2⟩ => ⟨r, h1, ?_⟩⟩
    · rw [if_neg (fun h => hj h.1)] at h2; exact h2
    · rw [if_neg (fun h => hj h.1)]; exact h2
theorem mapO_at (S : Nat → Nat → Bool) (j q : Nat) : mapO S j ((q * 2 ^ j : Nat) : Int) = if S j q = true then some 1 else none := by
  unfold mapO
  rw [Int.toNat_natCast, Nat.mul_div_cancel _ (Nat.two_pow_pos j), Nat.mul_mod_left]
  have h0 : (0 : Int) ≤ ((q * 2 ^ j : Nat) : Int) := Int.natCast_nonneg _
  by_cases h : S j q = true
  · rw [if_pos ⟨h0, rfl, h⟩, if_pos h]
  · rw [if_neg (fun h1 => h h1.2.2), if_neg h]
theorem xor_tw (q k : Nat) : (q * 2 ^ k) ^^^ 2 ^ k = tw q * 2 ^ k := by
  apply Nat.eq_of_testBit_eq
  intro i
  rw [Nat.testBit_xor, Nat.testBit_mul_two_pow, Nat.testBit_mul_two_pow, Nat.testBit_two_pow]
  rcases Nat.lt_or_ge i k with h | h
  · have h1 : ¬ k ≤ i := by omega
    have h2 : ¬ k = i := by omega
    simp [h1, h2]
  · have h1 : k ≤ i := h
    obtain ⟨n, rfl⟩ : ∃ n, i = k + n := ⟨i - k, by omega⟩
    simp only [h1, decide_true, Bool.true_and, Nat.add_sub_cancel_left]
    unfold tw
    cases n with
    | zero =>
      simp only [Nat.add_zero, decide_true, Bool.xor_true, Nat.testBit_zero]
      split
      · rename_i h2
        have h3 : (q + 1) % 2 = 1 := by omega
        simp [h2, h3]
      · rename_i h2
        have h3 : (q - 1) % 2 = 0 := by omega
        have h4 : q % 2 = 1 := by omega
        simp [h3, h4]
    | succ n =>
      have h2 : ¬ k = k + (n + 1) := by omega
      simp only [h2, decide_false, Bool.xor_false, Nat.testBit_succ]
      congr 1
      split <;> omega
theorem and_tw (q k : Nat) : (q * 2 ^ k) &&& (tw q * 2 ^ k) = q / 2 * 2 ^ (k + 1) := by
  apply Nat.eq_of_testBit_eq
  intro i
  rw [Nat.testBit_and, Nat.testBit_mul_two_pow, Nat.testBit_mul_two_pow, Nat.testBit_mul_two_pow]
  rcases Nat.lt_or_ge i k with h | h
  · have h1 : ¬ k ≤ i := by omega
    simp [h1]; omega
  · obtain ⟨n, rfl⟩ : ∃ n, i = k + n := ⟨i - k, by omega⟩
    unfold tw
    cases n with
    | zero =>
      have h2 : ¬ k + 1 ≤ k := by omega
      simp only [Nat.add_zero, Nat.le_refl, decide_true, Bool.true_and, Nat.sub_self, Nat.testBit_zero, h2, decide_false, Bool.false_and]
      split
      · rename_i h3
        have h4 : (q + 1) % 2 = 1 := by omega
        simp [h3, h4]
      · rename_i h3
        have h4 : (q - 1) % 2 = 0 := by omega
        simp [h4]
    | succ n =>
      have h2 : k + 1 ≤ k + (n + 1) := by omega
      simp only [h, h2, decide_true, Bool.true_and, Nat.add_sub_cancel_left, Nat.testBit_succ, show k + (n + 1) - (k + 1) = n by omega]
      have e : (if q % 2 = 0 then q + 1 else q - 1) / 2 = q / 2 := by split <;> omega
      rw [e, Bool.and_self]
theorem xor_low {q K j : Nat} (h : j < K) : (q * 2 ^ K) ^^^ 2 ^ j = q * 2 ^ K + 2 ^ j := by
  have e : q * 2 ^ K = (q * 2 ^ (K - j)) * 2 ^ j := by rw [Nat.mul_assoc, ← Nat.pow_add, show K - j + j = K by omega]
  rw [e, xor_tw]
  have e2 : (q * 2 ^ (K - j)) % 2 = 0 := by
    rw [show K - j = (K - j - 1) + 1 by omega, Nat.pow_succ, ← Nat.mul_assoc]
    exact Nat.mul_mod_left ..
  unfold tw
  rw [if_pos e2, Nat.add_mul, Nat.one_mul]
end Go.Proofs.Ytjphckfbbiehdaa
