/- The order in which objects are found: plain. -/
import Derived.Test.YtpbafmdebflbpaaGrA
namespace Go.Proofs.Ytpbafmdebflbpaa

theorem nodup_sum {α : Type} [DecidableEq α] (f : α → Nat) (l m : List α) (hn : l.Nodup) (hs : ∀ x ∈ l, x ∈ m) : (l.map f).sum ≤ (m.map f).sum := by
  induction l generalizing m with
  | nil => simp
  | cons a l ih =>
    obtain ⟨h1, h2⟩ := List.nodup_cons.1 hn
    have hp := ((List.perm_cons_erase (hs a (by simp))).map f).sum_nat
    have h3 := ih (m.erase a) h2 (fun x hx => (List.mem_erase_of_ne (by rintro rfl; exact h1 hx)).2 (hs x (by simp [hx])))
    simp only [List.map_cons, List.sum_cons] at hp ⊢
    omega
theorem nodup_len (l : List Int) (n : Nat) (hn : l.Nodup) (hs : ∀ x ∈ l, 0 ≤ x ∧ x < (n : Int)) : l.length ≤ n := by
  have h := nodup_sum (fun _ => 1) l ((List.range n).map Int.ofNat) hn (fun x hx => by
    obtain ⟨a, b⟩ := hs x hx
    exact List.mem_map.2 ⟨x.toNat, List.mem_range.2 (by omega), by show ((x.toNat : Nat) : Int) = x; omega⟩)
  have e : ∀ m : List Int, (m.map (fun _ => 1)).sum = m.length := fun m => by
    induction m with
    | nil => rfl
    | cons a m ih => simp only [List.map_cons, List.sum_cons, List.length_cons, ih]; omega
  rw [e, e] at h
  simpa using h

def seen1 (l : List Int) (v : Val) : List Int := if v.1 = true ∧ v.2 ∉ l then l ++ [v.2] else l
def seenAll (l : List Int) (vs : List Val) : List Int := vs.foldl seen1 l
def fieldsI (gs : List (List Val)) (x : Int) : List Val := gs.getD x.toNat []
def bfs (gs : List (List Val)) : Nat → Nat → List Int → List Int
  | 0, _, l => l
  | f + 1, k, l => if k < l.length then bfs gs f (k + 1) (seenAll l (fieldsI gs (l.getD k 0))) else l
def order (gs : List (List Val)) (vs : List Val) : List Int := bfs gs gs.length 0 (seenAll [] vs)
def ValsOk (n : Nat) (vs : List Val) : Prop := ∀ v ∈ vs, v.1 = true → 0 ≤ v.2 ∧ v.2 < (n : Int)
structure OrdOk (n : Nat) (l : List Int) : Prop where
  nodup : l.Nodup
  rng : ∀ x ∈ l, 0 ≤ x ∧ x < (n : Int)
theorem OrdOk.len {n : Nat} {l : List Int} (h : OrdOk n l) : l.length ≤ n := nodup_len l n h.nodup h.rng
theorem OrdOk.nil (n : Nat) : OrdOk n [] := ⟨List.nodup_nil, by simp⟩
theorem OrdOk.seen1 {n : Nat} {l : List Int} (h : OrdOk n l) {v : Val} (hv : v.1 = true → 0 ≤ v.2 ∧ v.2 < (n : Int)) : OrdOk n (seen1 l v) := by
  unfold Go.Proofs.Ytpbafmdebflbpaa.seen1
  split
  · rename_i hc
    refine ⟨List.nodup_append.2 ⟨h.nodup, by simp, fun a ha b hb => by simp at hb; subst hb; rintro rfl; exact hc.2 ha⟩, fun x hx => ?_⟩
    rcases List.mem_append.1 hx with h1 | h1
    · exact h.rng x h1
    · simp at h1; subst h1; exact hv hc.1
  · exact h
theorem OrdOk.seenAll {n : Nat} {l : List Int} (h : OrdOk n l) {vs : List Val} (hv : ValsOk n vs) : OrdOk n (seenAll l vs) := by
  unfold Go.Proofs.Ytpbafmdebflbpaa.seenAll
  induction vs generalizing l with
  | nil => exact h
  | cons a vs ih => exact ih (h.seen1 (hv a (by simp))) (fun v hv' => hv v (by simp [hv']))
theorem fieldsI_ok {gs : List (List Val)} {n : Nat} (hg : ∀ fs ∈ gs, ValsOk n fs) (x : Int) : ValsOk n (fieldsI gs x) := by
  unfold fieldsI
  rw [List.getD_eq_getElem?_getD]
  cases h : gs[x.toNat]? with
  | none => intro v hv; simp at hv
  | some fs => exact hg fs (List.mem_of_getElem? h)
theorem OrdOk.bfs {gs : List (List Val)} {n : Nat} (hg : ∀ fs ∈ gs, ValsOk n fs) (f : Nat) {k : Nat} {l : List Int} (h : OrdOk n l) : OrdOk n (bfs gs f k l) := by
  induction f generalizing k l with
  | zero => exact h
  | succ f ih =>
    unfold Go.Proofs.Ytpbafmdebflbpaa.bfs
    split
    · exact ih (h.seenAll (fieldsI_ok hg _))
    · exact h
theorem seen1_pre (l : List Int) (v : Val) : l <+: seen1 l v := by
  unfold seen1
  split
  · exact List.prefix_append _ _
  · exact List.prefix_refl _
theorem seenAll_pre (l : List Int) (vs : List Val) : l <+: seenAll l vs := by
  unfold seenAll
  induction vs generalizing l with
  | nil => exact List.prefix_refl _
  | cons a vs ih => exact (seen1_pre l a).trans (ih _)
theorem bfs_pre (gs : List (List Val)) (f k : Nat) (l : List Int) : l <+: bfs gs f k l := by
  induction f generalizing k l with
  | zero => exact List.prefix_refl _
  | succ f ih =>
    unfold bfs
    split
    · exact (seenAll_pre _ _).trans (ih _ _)
    · exact List.prefix_refl _
theorem order_ok {gs : List (List Val)} {vs : List Val} (hg : ∀ fs ∈ gs, ValsOk gs.length fs) (hv : ValsOk gs.length vs) : OrdOk gs.length (order gs vs) := ((OrdOk.nil _).seenAll hv).bfs hg _
theorem bfs_end (gs : List (List Val)) (f k : Nat) (l : List Int) (h : l.length ≤ k) : bfs gs f k l = l := by
  cases f with
  | zero => rfl
  | succ f => unfold bfs; rw [if_neg (by omega)]
theorem bfs_step (gs : List (List Val)) (n k : Nat) (l : List Int) (h : k < l.length) (hn : l.length ≤ n) : bfs gs (n - k) k l = bfs gs (n - (k + 1)) (k + 1) (seenAll l (fieldsI gs (l.getD k 0))) := by
  rw [show n - k = (n - (k + 1)) + 1 from by omega]
  conv => lhs; unfold bfs
  rw [if_pos h]
end Go.Proofs.Ytpbafmdebflbpaa
