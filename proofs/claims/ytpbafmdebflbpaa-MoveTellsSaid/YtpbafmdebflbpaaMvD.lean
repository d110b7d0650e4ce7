/- move: mover.move, whatever the word; mover.all. -/
import Derived.Test.YtpbafmdebflbpaaMvC
namespace Go.Proofs.Ytpbafmdebflbpaa
open Go.RowKit Go.Maps

/-- A word of an arena that may be. -/
structure GoodW (pre : List (Nat × Nat)) (x : Int) : Prop where
  lo : 0 ≤ x
  hi : x ≤ 18446744073709551615
  e : unE x = 0
  ix : unR x = true → ixOf pre (unA x) < pre.length ∧ (placesOf pre)[ixOf pre (unA x)]? = some (unA x)
theorem GoodW.num {pre : List (Nat × Nat)} {x : Int} (h : GoodW pre x) (hr : unR x = false) : x % 2 = 1 := by
  have he := h.e
  unfold unE at he
  unfold unR at hr
  simp only [decide_eq_false_iff_not, not_and] at hr
  split at he
  · assumption
  · split at he
    · have := hr (by omega); omega
    · omega
theorem GoodW.ref {pre : List (Nat × Nat)} {x : Int} (h : GoodW pre x) (hr : unR x = true) : x % 2 = 0 ∧ x < 512 ∧ unA x = x / 2 ∧ (plc pre (ixOf pre (unA x) : Nat) : Int) = x / 2 ∧ ixOf pre (unA x) < pre.length := by
  have hr2 := hr
  unfold unR at hr2
  simp only [decide_eq_true_eq] at hr2
  have ha : unA x = x / 2 := by unfold unA; rw [if_neg (by omega), if_pos (by omega)]
  obtain ⟨h1, h2⟩ := h.ix hr
  refine ⟨hr2.1, hr2.2, ha, ?_, h1⟩
  rw [← ha]
  generalize ixOf pre (unA x) = q at *
  unfold placesOf at h2
  rw [List.getElem?_map, List.getElem?_eq_getElem h1] at h2
  have h3 : ((pre[q].1 : Nat) : Int) = unA x := by simpa using h2
  rw [← h3]
  unfold plc
  rw [List.getD_eq_getElem?_getD]
  simp [List.getElem?_eq_getElem h1]

/-- The list of what has moved, behind a word; and what that word adds. -/
def mvL (pre : List (Nat × Nat)) (l : List Int) (x : Int) : List Int := seen1 l (turnW (ixOf pre) x)
def mvE (ws : List Int) (pre : List (Nat × Nat)) (l : List Int) (x : Int) : List Int := if unR x = true ∧ (ixOf pre (unA x) : Int) ∉ l then rawO ws pre 1 (ixOf pre (unA x)) else []
theorem mvL_no {pre : List (Nat × Nat)} {l : List Int} {x : Int} (h : unR x = false ∨ (ixOf pre (unA x) : Int) ∈ l) : mvL pre l x = l := by
  unfold mvL turnW
  cases hr : unR x with
  | false => exact seen1_no _ _ _ (.inl rfl)
  | true =>
    rcases h with h | h
    · rw [hr] at h; cases h
    · exact seen1_no _ _ _ (.inr h)
theorem mvL_yes {pre : List (Nat × Nat)} {l : List Int} {x : Int} (hr : unR x = true) (h : (ixOf pre (unA x) : Int) ∉ l) : mvL pre l x = l ++ [(ixOf pre (unA x) : Int)] := by
  unfold mvL turnW; rw [hr]; exact seen1_yes _ _ h
theorem mvL_mem {pre : List (Nat × Nat)} {l : List Int} {x : Int} (hr : unR x = true) : (ixOf pre (unA x) : Int) ∈ mvL pre l x := by
  by_cases h : (ixOf pre (unA x) : Int) ∈ l
  · rw [mvL_no (.inr h)]; exact h
  · rw [mvL_yes hr h]; simp
theorem mvL_ok {pre : List (Nat × Nat)} {l : List Int} {x : Int} (hx : GoodW pre x) (h : OrdOk pre.length l) : OrdOk pre.length (mvL pre l x) := by
  refine h.seen1 fun hv => ?_
  have hr : unR x = true := hv
  have := (hx.ref hr).2.2.2.2
  unfold turnW
  rw [hr]
  dsimp only
  rw [if_pos rfl]
  omega
theorem transW_pre {pre : List (Nat × Nat)} {l m : List Int} {x : Int} (hp : l <+: m) (h : unR x = true → (ixOf pre (unA x) : Int) ∈ l) : transW pre m x = transW pre l x := by
  unfold transW
  split
  · rename_i hr; rw [newAt_pre hp (h hr)]
  · rfl
theorem rawO_len {nW : Nat} {ws : List Int} {o i : Int} (hw : ∀ x ∈ ws, 0 ≤ x) (hi0 : 0 ≤ i) (hi : i < (parse nW ws 0).1.length) : (rawO ws (parse nW ws 0).1 o i).length = 1 + lenO (parse nW ws 0).1 i ∧ plc (parse nW ws 0).1 i < ws.length ∧ unheadOK (ws.getD (plc (parse nW ws 0).1 i) 0) ∧ hLen (ws.getD (plc (parse nW ws 0).1 i) 0) = (lenO (parse nW ws 0).1 i : Int) ∧ plc (parse nW ws 0).1 i + 1 + lenO (parse nW ws 0).1 i ≤ ws.length := by
  have hm := fun p hp => parse_mem nW ws 0 p hw hp
  generalize (parse nW ws 0).1 = pre at *
  have hil : i.toNat < pre.length := by omega
  obtain ⟨h1, h2, h3, h4⟩ := hm _ (List.getElem_mem hil)
  have e : pre.getD i.toNat (0, 0) = pre[i.toNat] := by rw [List.getD_eq_getElem?_getD, List.getElem?_eq_getElem hil]; rfl
  refine ⟨?_, ?_, ?_, ?_, ?_⟩
  · unfold rawO plc lenO
    rw [e]
    simp only [List.length_cons, List.length_take, List.length_drop]
    omega
  all_goals (unfold plc; rw [e]; try (unfold lenO; rw [e]))
  · exact h1
  · exact h2
  · exact h3
  · exact h4

set_option maxRecDepth 100000 in
set_option maxHeartbeats 1600000 in
theorem mv_any (w : World) (Dw : Nat → Prop) (m b : Nat) (D : DataW Unit) (Aw At : Option Addr) (nw cw nt ct : Nat) (ws xs l : List Int) (x : Int) (hs : (allI (MvI m b l.length D At nt ct xs Aw nw cw)).P w) (hD : ∀ g, (allI (MvI m b l.length D At nt ct xs Aw nw cw)).fp g → ¬ Dw g) (hW : WsD w Dw Aw nw cw ws) (hn : nw ≤ 256)
    (hO : OrdOk (parse nw ws 0).1.length l) (hN : NowOk (parse nw ws 0).1 l D) (hnt : nt = sumO (parse nw ws 0).1 l) (hx : GoodW (parse nw ws 0).1 x) :
    Calls Try.prog 65 #[.pointer (some ⟨m, 0, none⟩), .int .u64 x] w fun e w' => ∃ D' At' nt' ct', e = .returned (.int .u64 (transW (parse nw ws 0).1 (mvL (parse nw ws 0).1 l x) x)) ∧
      NowOk (parse nw ws 0).1 (mvL (parse nw ws 0).1 l x) D' ∧ nt' = sumO (parse nw ws 0).1 (mvL (parse nw ws 0).1 l x) ∧
      Sep (allI (MvI m b l.length D At nt ct xs Aw nw cw)).fp w w' [allI (MvI m b (mvL (parse nw ws 0).1 l x).length D' At' nt' ct' (xs ++ mvE ws (parse nw ws 0).1 l x) Aw nw cw)] := by
  have hw0 : ∀ x ∈ ws, 0 ≤ x := fun x hx => (hW.wf x hx).1
  have hwl := hW.in_.len
  cases hr : unR x with
  | false =>
    have h1 : mvL (parse nw ws 0).1 l x = l := mvL_no (.inl hr)
    have h2 : mvE ws (parse nw ws 0).1 l x = [] := by unfold mvE; rw [if_neg (by rw [hr]; simp)]
    have h3 : transW (parse nw ws 0).1 l x = x := by unfold transW; rw [if_neg (by rw [hr]; simp)]
    rw [h1, h2, h3, List.append_nil]
    refine (mv_num w m x hx.lo hx.hi (hx.num hr)).mono ?_
    rintro e w' ⟨rfl, rfl⟩
    exact ⟨D, At, nt, ct, rfl, hN, hnt, Sep.start hs⟩
  | true =>
    obtain ⟨r1, r2, r3, r4, r5⟩ := hx.ref hr
    obtain ⟨q, hq⟩ : ∃ q, ixOf (parse nw ws 0).1 (unA x) = q := ⟨_, rfl⟩
    by_cases hin : (ixOf (parse nw ws 0).1 (unA x) : Int) ∈ l
    · have h1 : mvL (parse nw ws 0).1 l x = l := mvL_no (.inr hin)
      have h2 : mvE ws (parse nw ws 0).1 l x = [] := by unfold mvE; rw [if_neg (by rintro ⟨_, h⟩; exact h hin)]
      have h3 : transW (parse nw ws 0).1 l x = 2 * (newAt (parse nw ws 0).1 l (ixOf (parse nw ws 0).1 (unA x)) : Int) := by unfold transW; rw [if_pos hr]
      have h4 := newAt_lt hw0 hO hin
      rw [h1, h2, h3, List.append_nil]
      have hhas := hN.has ((ixOf (parse nw ws 0).1 (unA x) : Nat) : Int) (by omega) (by omega)
      have hat := hN.at_ ((ixOf (parse nw ws 0).1 (unA x) : Nat) : Int) (by omega) (by omega) hin
      rw [r4] at hhas hat
      rw [show decide ((ixOf (parse nw ws 0).1 (unA x) : Int) ∈ l) = true from by simp [hin]] at hhas
      refine (mv_there w m b l.length D Aw At nw cw nt ct _ x hx.lo r1 r2 (hs.1 (blkI m 119 #[.slice Aw nw cw, .slice At nt ct, .map (some b)]) (by simp [MvI])) (hs.1 (mapJ b l.length D) (by simp [MvI])) hhas hat (by omega)).mono ?_
      rintro e w' ⟨rfl, rfl⟩
      exact ⟨D, At, nt, ct, rfl, hN, hnt, Sep.start hs⟩
    · have h1 : mvL (parse nw ws 0).1 l x = l ++ [(ixOf (parse nw ws 0).1 (unA x) : Int)] := mvL_yes hr hin
      have h2 : mvE ws (parse nw ws 0).1 l x = rawO ws (parse nw ws 0).1 1 (ixOf (parse nw ws 0).1 (unA x)) := by unfold mvE; rw [if_pos ⟨hr, hin⟩]
      have h3 : transW (parse nw ws 0).1 (l ++ [(ixOf (parse nw ws 0).1 (unA x) : Int)]) x = 2 * (nt : Int) := by unfold transW; rw [if_pos hr, newAt_last hin, hnt]
      obtain ⟨g1, g2, g3, g4, g5⟩ := rawO_len (nW := nw) (o := 1) hw0 (i := (ixOf (parse nw ws 0).1 (unA x) : Int)) (by omega) (by omega)
      have hs1 := sumO_le hw0 hO
      have hl1 := hO.len
      have hpl : (parse nw ws 0).1.length ≤ ws.length := by
        have h6 := parse_sum nw ws 0 (by omega) hw0
        have h7 : ∀ m : List (Nat × Nat), m.length ≤ (m.map fun p => 1 + p.2).sum := fun m => by
          induction m with
          | nil => simp
          | cons a m ih => simp only [List.map_cons, List.sum_cons, List.length_cons]; omega
        have := h7 (parse nw ws 0).1
        omega
      rw [h1, h2, h3]
      have hhas := hN.has ((ixOf (parse nw ws 0).1 (unA x) : Nat) : Int) (by omega) (by omega)
      rw [show decide ((ixOf (parse nw ws 0).1 (unA x) : Int) ∈ l) = false from by simp [hin]] at hhas
      have hput := hN.put (i := (ixOf (parse nw ws 0).1 (unA x) : Int)) (by omega) (by omega) hin
      rw [← hnt] at hput
      have key := mv_new w Dw m b l.length D Aw At nw cw nt ct (plc (parse nw ws 0).1 (ixOf (parse nw ws 0).1 (unA x) : Int)) (lenO (parse nw ws 0).1 (ixOf (parse nw ws 0).1 (unA x) : Int)) ws xs hs hD hW hn (by omega) (by omega) g3 g4 (by omega) hhas hN.map
      rw [show 2 * ((plc (parse nw ws 0).1 (ixOf (parse nw ws 0).1 (unA x) : Int) : Nat) : Int) = x from by omega] at key
      refine key.mono ?_
      rintro e w' ⟨A', c', rfl, hS⟩
      refine ⟨_, A', nt + (1 + lenO (parse nw ws 0).1 (ixOf (parse nw ws 0).1 (unA x) : Int)), c', rfl, hput, by rw [sumO_snoc, hnt], ?_⟩
      rw [List.length_append, List.length_singleton]
      have e9 : rawO ws (parse nw ws 0).1 1 (ixOf (parse nw ws 0).1 (unA x)) = headW (lenO (parse nw ws 0).1 (ixOf (parse nw ws 0).1 (unA x) : Int)) false (if 7 < hAge (ws.getD (plc (parse nw ws 0).1 (ixOf (parse nw ws 0).1 (unA x) : Int)) 0) + 1 then 7 else hAge (ws.getD (plc (parse nw ws 0).1 (ixOf (parse nw ws 0).1 (unA x) : Int)) 0) + 1) :: (ws.drop (plc (parse nw ws 0).1 (ixOf (parse nw ws 0).1 (unA x) : Int) + 1)).take (lenO (parse nw ws 0).1 (ixOf (parse nw ws 0).1 (unA x) : Int)) := by
        unfold rawO older headOf
        rw [← g4]
      rw [e9]
      exact hS
end Go.Proofs.Ytpbafmdebflbpaa
