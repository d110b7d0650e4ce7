/- Objects that move: where each comes to stand; the plain part. -/
import Derived.Test.YtpbafmdebflbpaaArHd
namespace Go.Proofs.Ytpbafmdebflbpaa
open Go.RowKit Go.Maps

def plc (pre : List (Nat × Nat)) (i : Int) : Nat := (pre.getD i.toNat (0, 0)).1
def lenO (pre : List (Nat × Nat)) (i : Int) : Nat := (pre.getD i.toNat (0, 0)).2
def sumO (pre : List (Nat × Nat)) (l : List Int) : Nat := (l.map fun i => 1 + lenO pre i).sum
def newAt (pre : List (Nat × Nat)) (l : List Int) (i : Int) : Nat := sumO pre (l.take (l.idxOf i))
/-- A map says where the objects of a list stand. -/
structure NowOk (pre : List (Nat × Nat)) (l : List Int) (D : DataW Unit) : Prop where
  map : IsMap D
  has : ∀ i : Int, 0 ≤ i → i < pre.length → Maps.has D (.int .i64 (plc pre i)) = decide (i ∈ l)
  at_ : ∀ i : Int, 0 ≤ i → i < pre.length → i ∈ l → ∀ z, D.atKey (.int .i64 (plc pre i)) z = .lit (.int .i64 (newAt pre l i))

theorem sumO_snoc (pre : List (Nat × Nat)) (l : List Int) (i : Int) : sumO pre (l ++ [i]) = sumO pre l + (1 + lenO pre i) := by simp [sumO]
theorem idxOf_append_left {l m : List Int} {i : Int} (h : i ∈ l) : (l ++ m).idxOf i = l.idxOf i := by rw [List.idxOf_append, if_pos h]
theorem newAt_pre {pre : List (Nat × Nat)} {l m : List Int} {i : Int} (hp : l <+: m) (h : i ∈ l) : newAt pre m i = newAt pre l i := by
  obtain ⟨r, rfl⟩ := hp
  unfold newAt
  rw [idxOf_append_left h, List.take_append_of_le_length (by have := List.idxOf_lt_length_of_mem h; omega)]
theorem newAt_last {pre : List (Nat × Nat)} {l : List Int} {i : Int} (h : i ∉ l) : newAt pre (l ++ [i]) i = sumO pre l := by
  unfold newAt
  rw [List.idxOf_append, if_neg h]
  simp
theorem plc_inj {nW : Nat} {ws : List Int} {i j : Int} (hi0 : 0 ≤ i) (hi : i < (parse nW ws 0).1.length) (hj0 : 0 ≤ j) (hj : j < (parse nW ws 0).1.length) (h : plc (parse nW ws 0).1 i = plc (parse nW ws 0).1 j) : i = j := by
  have hp := parse_rise nW ws 0
  generalize (parse nW ws 0).1 = pre at *
  rw [List.pairwise_iff_getElem] at hp
  have e1 : plc pre i = (pre[i.toNat]'(by omega)).1 := by unfold plc; rw [List.getD_eq_getElem?_getD, List.getElem?_eq_getElem (by omega)]; rfl
  have e2 : plc pre j = (pre[j.toNat]'(by omega)).1 := by unfold plc; rw [List.getD_eq_getElem?_getD, List.getElem?_eq_getElem (by omega)]; rfl
  rw [e1, e2] at h
  rcases Nat.lt_trichotomy i.toNat j.toNat with h1 | h1 | h1
  · have := hp _ _ (by omega) (by omega) h1; omega
  · omega
  · have := hp _ _ (by omega) (by omega) h1; omega
theorem nowOk_nil (pre : List (Nat × Nat)) : NowOk pre [] (.map []) := ⟨⟨[], rfl⟩, fun _ _ _ => by simp [Maps.has], fun i _ _ h => by simp at h⟩
theorem NowOk.put {nW : Nat} {ws : List Int} {l : List Int} {D : DataW Unit} {i : Int} (h : NowOk (parse nW ws 0).1 l D) (hi0 : 0 ≤ i) (hi : i < (parse nW ws 0).1.length) (hn : i ∉ l) :
    NowOk (parse nW ws 0).1 (l ++ [i]) (D.put (.int .i64 (plc (parse nW ws 0).1 i)) (.lit (.int .i64 (sumO (parse nW ws 0).1 l)))) := by
  have hinj := fun j hj0 hj => plc_inj (nW := nW) (ws := ws) (i := j) (j := i) hj0 hj hi0 hi
  generalize (parse nW ws 0).1 = pre at *
  refine ⟨?_, fun j hj0 hj => ?_, fun j hj0 hj hm z => ?_⟩
  · obtain ⟨es, rfl⟩ := h.map; exact ⟨_, rfl⟩
  · by_cases e : j = i
    · subst e
      rw [has_put_same (k := Lit.int .i64 (plc pre j : Int)) h.map trivial]
      simp
    · rw [has_put_other (by intro e2; injection e2 with _ e2; exact e (hinj j hj0 hj (by omega))), h.has j hj0 hj]
      simp [e]
  · by_cases e : j = i
    · subst e
      rw [atKey_put_same (k := Lit.int .i64 (plc pre j : Int)) h.map trivial, newAt_last hn]
    · have hm2 : j ∈ l := by simpa [e] using hm
      rw [atKey_put_other (by intro e2; injection e2 with _ e2; exact e (hinj j hj0 hj (by omega))), h.at_ j hj0 hj hm2 z, newAt_pre (List.prefix_append _ _) hm2]

/-! ### How much room objects take. -/
theorem parse_sum (f : Nat) : ∀ (ws : List Int) (a : Nat), a ≤ ws.length → (∀ x ∈ ws, 0 ≤ x) → ((parse f ws a).1.map fun p => 1 + p.2).sum + a ≤ ws.length := by
  induction f with
  | zero => intro ws a h _; simpa [parse] using h
  | succ f ih =>
    intro ws a h hw
    unfold parse
    split
    · rename_i h1
      split
      · rename_i h2
        have h0 : 0 ≤ hLen (ws.getD a 0) := by unfold hLen; omega
        have := ih ws (a + 1 + (hLen (ws.getD a 0)).toNat) (by omega) hw
        simp only [List.map_cons, List.sum_cons]
        omega
      · simpa using h
    · simpa using h
theorem sumO_le {nW : Nat} {ws l : List Int} (hw : ∀ x ∈ ws, 0 ≤ x) (h : OrdOk (parse nW ws 0).1.length l) : sumO (parse nW ws 0).1 l ≤ ws.length := by
  have h1 := parse_sum nW ws 0 (Nat.zero_le _) hw
  generalize (parse nW ws 0).1 = pre at *
  have h2 := nodup_sum (fun i => 1 + lenO pre i) l ((List.range pre.length).map Int.ofNat) h.nodup (fun x hx => by
    obtain ⟨a, b⟩ := h.rng x hx
    exact List.mem_map.2 ⟨x.toNat, List.mem_range.2 (by omega), by show ((x.toNat : Nat) : Int) = x; omega⟩)
  have h3 : (((List.range pre.length).map Int.ofNat).map fun i => 1 + lenO pre i) = pre.map fun p => 1 + p.2 := by
    rw [List.map_map]
    refine List.ext_getElem (by simp) fun k hk1 hk2 => ?_
    simp only [List.length_map, List.length_range] at hk1 hk2
    simp [lenO, List.getD_eq_getElem?_getD, List.getElem?_eq_getElem hk1]
  rw [h3] at h2
  unfold sumO
  omega
theorem newAt_lt {nW : Nat} {ws l : List Int} {i : Int} (hw : ∀ x ∈ ws, 0 ≤ x) (h : OrdOk (parse nW ws 0).1.length l) (hi : i ∈ l) : newAt (parse nW ws 0).1 l i + 1 + lenO (parse nW ws 0).1 i ≤ ws.length := by
  have h1 := sumO_le hw h
  generalize (parse nW ws 0).1 = pre at *
  have hk : l.idxOf i < l.length := List.idxOf_lt_length_of_mem hi
  have e : l = l.take (l.idxOf i) ++ i :: l.drop (l.idxOf i + 1) := by
    conv => lhs; rw [← List.take_append_drop (l.idxOf i) l, List.drop_eq_getElem_cons hk, List.getElem_idxOf hk]
  have h2 : sumO pre l = newAt pre l i + (1 + lenO pre i) + sumO pre (l.drop (l.idxOf i + 1)) := by
    unfold newAt
    conv => lhs; rw [e]
    unfold sumO
    simp
    omega
  omega

/-! ### Words as they are when objects have moved. -/
def transW (pre : List (Nat × Nat)) (l : List Int) (x : Int) : Int := if unR x = true then 2 * (newAt pre l (ixOf pre (unA x)) : Int) else x
def rawO (ws : List Int) (pre : List (Nat × Nat)) (o i : Int) : List Int := (headW (older o (headOf (ws.getD (plc pre i) 0))).1 false (older o (headOf (ws.getD (plc pre i) 0))).2.2) :: (ws.drop (plc pre i + 1)).take (lenO pre i)
theorem ix_nn (pre : List (Nat × Nat)) (y : Int) : (0 : Int) ≤ (ixOf pre y : Nat) := by omega
end Go.Proofs.Ytpbafmdebflbpaa
