/- hazard: the reference's Hazards. -/
import Derived.Test.YtpbafmdebflbpaaHazF
namespace Go.Proofs.Ytpbafmdebflbpaa
open Go.RowKit

/-- The reference's state. -/
structure RM where
  guards : List Int
  waits : List (Int × Int)
  gone : List Int
  freed : List (Int × Int)
def RM.scanFreed (m : RM) (who by_ : Int) (l : List (Int × Int)) : List (Int × Int) := (l.filter fun x => x.2 == who && !decide (x.1 + 1 ∈ m.guards)).map fun x => (x.1, by_)
def RM.scanLeft (m : RM) (who : Int) (l : List (Int × Int)) : List (Int × Int) := l.filter fun x => !(x.2 == who && !decide (x.1 + 1 ∈ m.guards))
def RM.does (m : RM) (k who it by_ : Int) : Int × RM :=
  if k < 1 ∨ 4 < k then (5, m)
  else if who < 0 ∨ (m.guards.length : Int) ≤ who ∨ ((k = 1 ∨ k = 3) ∧ (it < 0 ∨ 100 ≤ it)) then (2, m)
  else if (k = 1 ∨ k = 3) ∧ it ∈ m.gone then (8, m)
  else if k = 1 then (0, { m with guards := m.guards.set who.toNat (it + 1) })
  else if k = 2 then (0, { m with guards := m.guards.set who.toNat 0 })
  else if k = 3 then (0, { m with gone := m.gone ++ [it], waits := m.waits ++ [(it, who)] })
  else (0, { m with freed := m.freed ++ m.scanFreed who by_ m.waits, waits := m.scanLeft who m.waits })
def RM.start (n : Nat) : RM := { guards := List.replicate n 0, waits := [], gone := [], freed := [] }
def RM.at (m : RM) (l : List Deed) : Nat → List Int × RM
  | 0 => ([], m)
  | k + 1 => ((RM.at m l k).1 ++ [((RM.at m l k).2.does (l.getD k (0, 0, 0)).1 (l.getD k (0, 0, 0)).2.1 (l.getD k (0, 0, 0)).2.2 k).1],
      ((RM.at m l k).2.does (l.getD k (0, 0, 0)).1 (l.getD k (0, 0, 0)).2.1 (l.getD k (0, 0, 0)).2.2 k).2)

theorem zInt : (Try.prog.info? 3).map (fun i => (i.zero, i.size, i.bytes)) = some (some (.int .i64 0), 1, 8) := by kernel_rfl
theorem madeInts (n : Nat) : (madeCells (Value.cells (.int .i64 0)) (n * 1)).toList = ints (List.replicate n 0) := by
  apply List.ext_getElem
  · simp [madeCells, ints]
  · intro i h1 h2
    simp [madeCells, Value.cells, ints, Nat.mod_one]

theorem RM.does_keeps (m : RM) (k who it b : Int) : (m.does k who it b).2.guards.length = m.guards.length ∧ (m.does k who it b).2.gone.length ≤ m.gone.length + 1 ∧ (m.does k who it b).2.waits.length + (m.does k who it b).2.freed.length ≤ m.waits.length + m.freed.length + 1 := by
  have hf : ∀ l : List (Int × Int), ((l.filter fun x => x.2 == who && !decide (x.1 + 1 ∈ m.guards)).length + (l.filter fun x => !(x.2 == who && !decide (x.1 + 1 ∈ m.guards))).length) = l.length := by
    intro l
    induction l with
    | nil => rfl
    | cons a l ih => by_cases h : (a.2 == who && !decide (a.1 + 1 ∈ m.guards)) = true <;> simp only [List.filter_cons, h, if_true, if_false, Bool.not_true, Bool.not_false, Bool.false_eq_true, List.length_cons] <;> first | omega | (simp only [Bool.not_eq_true] at h; simp only [h, Bool.not_false, if_true, List.length_cons]; omega)
  unfold RM.does
  repeat' split
  all_goals dsimp only
  all_goals refine ⟨by simp, by simp, ?_⟩
  all_goals try (simp; done)
  all_goals try (simp; omega)
  have := hf m.waits
  simp only [RM.scanFreed, RM.scanLeft, List.length_append, List.length_map]
  omega
theorem RM.does_waits (m : RM) (k who it b : Int) (h : ∀ x ∈ m.waits, 0 ≤ x.1 ∧ x.1 < 100) : ∀ x ∈ (m.does k who it b).2.waits, 0 ≤ x.1 ∧ x.1 < 100 := by
  unfold RM.does
  split
  · exact h
  split
  · exact h
  split
  · exact h
  split
  · exact h
  split
  · exact h
  split
  · intro x hx
    rcases List.mem_append.1 hx with h1 | h1
    · exact h x h1
    · simp only [List.mem_singleton] at h1; subst h1; dsimp only; omega
  · intro x hx
    exact h x ((List.mem_filter.1 hx).1)
theorem RM.at_waits (N : Nat) (l : List Deed) (k : Nat) : ∀ x ∈ (RM.at (RM.start N) l k).2.waits, 0 ≤ x.1 ∧ x.1 < 100 := by
  induction k with
  | zero => simp [RM.at, RM.start]
  | succ k ih => exact RM.does_waits _ _ _ _ _ ih
theorem ints_app (l : List Int) (x : Int) : ints (l ++ [x]) = ints l ++ [.int .i64 x] := by simp [ints]
theorem RM.at_ok (N : Nat) (l : List Deed) (k : Nat) : (RM.at (RM.start N) l k).2.guards.length = N ∧ (RM.at (RM.start N) l k).2.gone.length ≤ k ∧ (RM.at (RM.start N) l k).2.waits.length + (RM.at (RM.start N) l k).2.freed.length ≤ k := by
  induction k with
  | zero => simp [RM.at, RM.start]
  | succ k ih =>
    obtain ⟨h1, h2, h3⟩ := ih
    have h5 := RM.does_keeps (RM.at (RM.start N) l k).2 (l.getD k (0, 0, 0)).1 (l.getD k (0, 0, 0)).2.1 (l.getD k (0, 0, 0)).2.2 k
    exact ⟨h5.1.trans h1, by show (RM.does _ _ _ _ _).2.gone.length ≤ k + 1; omega, by show (RM.does _ _ _ _ _).2.waits.length + (RM.does _ _ _ _ _).2.freed.length ≤ k + 1; omega⟩

theorem freeing_any (w : World) (A1 A2 A3 : Option Addr) (n1 n2 n3 c1 c2 c3 : Nat) : Calls Try.prog 57 #[.slice A1 n1 c1, .slice A2 n2 c2, .slice A3 n3 c3] w fun e w' => e = .returned (.agg #[.slice A1 n1 c1, .slice A2 n2 c2, .slice A3 n3 c3]) ∧ Below w.heap.size w w' := by
  go_enter Try.func57, Try.ntmps57
  go_wp2
  refine bodyPost_ret (v := .agg #[.slice A1 n1 c1, .slice A2 n2 c2, .slice A3 n3 c3]) (by simp [results, Try.results57, go_sem]) rfl ⟨rfl, (by repeat (first | with_reducible exact Below.refl _ _ | with_reducible (refine Below.setCell ?_ (by first | omega | (simp; done) | (simp; omega)) _) | with_reducible (refine Below.alloc ?_ (by first | omega | (simp; done) | (simp; omega)) _) | with_reducible refine Below.drew ?_ | with_reducible refine below_drewN ?_ _))⟩

def RItems (w : World) (N : Nat) (m : RM) (codes : List Int) (q : Nat) (Aw : Option Addr) (nw cw : Nat) (Ag : Option Addr) (ng cg : Nat) (Ac : Option Addr) (cc : Nat) (Af : Option Addr) (nf cf : Nat) : List Item :=
  [blkI w.heap.size 42 #[.slice none 0 0, .slice none 0 0, .slice none 0 0], rowI 3 1 (some ⟨w.heap.size + 1, 0, none⟩) N N (ints (m).guards), rowI 105 2 Aw nw cw (fates (m).waits), rowI 3 1 Ag ng cg (ints (m).gone), rowI 25 1 Ac q cc (ints codes), rowI 105 2 Af nf cf (fates (m).freed)]

set_option maxRecDepth 100000 in
set_option linter.unusedSimpArgs false in
set_option maxHeartbeats 16000000 in
theorem hzref_ok (w : World) (N : Nat) (A : Option Addr) (n c : Nat) (l : List Deed) (h1 : 1 ≤ N) (h2 : N ≤ 4) (h3 : n ≤ 100) (hl : Rd w (fun _ => True) 3 A n (deeds l)) :
    Calls Try.prog 25 #[.int .i64 N, .slice A n c] w fun e w' => ∃ v, e = .returned v ∧ Below w.heap.size w w' ∧
      FreeingRd w w' v (RM.at (RM.start N) l n).1 (RM.at (RM.start N) l n).2.freed ((List.range N).flatMap fun t => ((RM.at (RM.start N) l n).2.waits.filter fun x => x.2 == Int.ofNat t).map Prod.fst) := by
  go_enter Try.func25, Try.ntmps25
  have hS0 := (Sep.nil No w).blkAt 42 #[.slice none 0 0, .slice none 0 0, .slice none 0 0] rfl
  go_wp2_with (first
    | (at_make
       refine wpList_make rfl (.tmp 21) (.tmp 21) 40 rfl hS0 Try.underlying40 zInt (by omega) .i64 .i64 N rfl rfl (by omega) ?_
       intro w1 hS1 hb1))
  have hS2 : Sep No w w1 (RItems w N (RM.start N) [] 0 none 0 0 none 0 0 none 0 none 0 0) := by
    rw [madeInts] at hS1
    rw [show (w.alloc (.cells #[.slice none 0 0, .slice none 0 0, .slice none 0 0] 42)).heap.size = w.heap.size + 1 from by simp] at hS1
    exact (((hS1.nilRow 105 2).nilRow 3 1).nilRow 25 1).nilRow 105 2
  have HS2 := hide hS2
  clear hS0 hS1 hS2 hb1
  go_loopw [6, 7, 8, 9, 25] (fun s6 s7 s8 s9 i wr => ∃ (q : Nat) (m : RM) (Aw : Option Addr) (nw cw : Nat) (Ag : Option Addr) (ng cg : Nat) (Ac : Option Addr) (cc : Nat) (Af : Option Addr) (nf cf : Nat), q ≤ n ∧ i = .int .i64 q ∧ s6 = .slice Aw nw cw ∧ s7 = .slice Ag ng cg ∧ s8 = .slice Ac q cc ∧ s9 = .slice Af nf cf ∧
    Hid (m = (RM.at (RM.start N) l q).2) ∧ Sep No w wr (RItems w N m (RM.at (RM.start N) l q).1 q Aw nw cw Ag ng cg Ac cc Af nf cf)) (fun _ _ _ _ i _ => n - (intOf i).toNat)
  case atStart => exact ⟨0, RM.start N, none, 0, 0, none, 0, 0, none, 0, none, 0, 0, by omega, rfl, rfl, rfl, rfl, rfl, rfl, HS2.out⟩
  case round =>
    clear HS2
    obtain ⟨q, m, Aw, nw, cw, Ag, ng, cg, Ac, cc, Af, nf, cf, hq, rfl, rfl, rfl, rfl, rfl, HM, hS⟩ := hrel
    have hok := RM.at_ok N l q
    rw [← HM.out] at hok
    have hlen : l.length = n := by have := hl.1; rw [deeds_length] at this; omega
    have HL := hide hlen
    have hG : wr.ownsRow 0 3 1 (.slice (some ⟨w.heap.size + 1, 0, none⟩) N N) N (ints m.guards) := hS.get 1 rfl
    have hW : wr.ownsRow 0 105 2 (.slice Aw nw cw) nw (fates m.waits) := hS.get 2 rfl
    have hGo : wr.ownsRow 0 3 1 (.slice Ag ng cg) ng (ints m.gone) := hS.get 3 rfl
    have hF : wr.ownsRow 0 105 2 (.slice Af nf cf) nf (fates m.freed) := hS.get 5 rfl
    have lw : nw ≤ q := by have := hW.1; rw [fates_length] at this; omega
    have lg : ng ≤ q := by have := hGo.1; simp at this; omega
    have lf : nf ≤ q := by have := hF.1; rw [fates_length] at this; omega
    have HOK := hide hok
    clear hlen hok
    by_cases hlt : q < n
    · obtain ⟨ad, hA, _, had, hc, hd⟩ := (hl.below hS.below_).atN hlt
      have hql : q < l.length := by rw [HL.out]; exact hlt
      obtain ⟨f0, f1, f2⟩ := deeds_at l q hql
      have e0 := hc _ f0
      have e1 := hd 0 _ f1
      have e2 := hd 1 _ f2
      clear hc hd f0 f1 f2
      have hgd : l.getD q (0, 0, 0) = l[q] := by rw [List.getD_eq_getElem?_getD, List.getElem?_eq_getElem hql]; rfl
      generalize l[q] = dd at *
      obtain ⟨k, who, it⟩ := dd
      dsimp only at e0 e1 e2
      subst hA
      have gl := (hG.lt _ rfl).2
      clear hW hF
      by_cases hk : k < 1 ∨ 4 < k
      · have hdo : m.does k who it q = (5, m) := by
          unfold RM.does; rw [if_pos hk]
        have hat : RM.at (RM.start N) l (q + 1) = ((RM.at (RM.start N) l q).1 ++ [5], m) := by simp only [RM.at, hgd, ← HM.out, hdo]
        have HAT := hide hat
        clear hat hdo hgd
        have hk1 : (k == 1) = false := by simp; omega
        have hk2 : (k != 2) = true := by simp; omega
        have hk3 : (k == 3) = false := by simp; omega
        have hk4 : (k != 4) = true := by simp; omega
        have hk2' : (k == 2) = false := by simp; omega
        have hk4' : (k == 4) = false := by simp; omega
        clear hk hG hGo
        go_wp2_with (first
          | (at_builtin
             refine wpList_app1 (cs := #[.int .i64 5]) rfl (.tmp 144) (.tmp 146) 38 rfl sErr (hS.alloc _) 4 (n := q) rfl rfl rfl (by simp) rfl rfl (by omega) ?_
             intro A9 c9 w9 hS9 hC9))
        go_roundw
        case rel =>
          refine ⟨q + 1, m, Aw, nw, cw, Ag, ng, cg, A9, c9, Af, nf, cf, by omega, by go_num, rfl, rfl, rfl, rfl, ?_, ?_⟩
          · show _ = _
            rw [HAT.out]
          · rw [HAT.out]
            unfold RItems
            simp only [ints_app, fates_app]
            exact hS9
        case measure => simp [intOf]; omega
      · rcases (show k = 1 ∨ k = 2 ∨ k = 3 ∨ k = 4 by omega) with rfl | rfl | rfl | rfl
        · clear hk
          by_cases hw1 : who < 0
          · have hdo : m.does 1 who it q = (2, m) := by
              unfold RM.does; rw [if_neg (by omega), if_pos (by omega)]
            have hat : RM.at (RM.start N) l (q + 1) = ((RM.at (RM.start N) l q).1 ++ [2], m) := by simp only [RM.at, hgd, ← HM.out, hdo]
            have HAT := hide hat
            clear hat hdo hgd
            clear hG hGo
            go_wp2_with (first
              | (at_builtin
                 refine wpList_app1 (cs := #[.int .i64 2]) rfl (.tmp 144) (.tmp 146) 38 rfl sErr (hS.alloc _) 4 (n := q) rfl rfl rfl (by simp) rfl rfl (by omega) ?_
                 intro A9 c9 w9 hS9 hC9))
            go_roundw
            case rel =>
              refine ⟨q + 1, m, Aw, nw, cw, Ag, ng, cg, A9, c9, Af, nf, cf, by omega, by go_num, rfl, rfl, rfl, rfl, ?_, ?_⟩
              · show _ = _
                rw [HAT.out]
              · rw [HAT.out]
                unfold RItems
                simp only [ints_app, fates_app]
                exact hS9
            case measure => simp [intOf]; omega
          by_cases hw2 : (N : Int) ≤ who
          · have hdo : m.does 1 who it q = (2, m) := by
              have h := HOK.out.1; unfold RM.does; rw [if_neg (by omega), if_pos (by omega)]
            have hat : RM.at (RM.start N) l (q + 1) = ((RM.at (RM.start N) l q).1 ++ [2], m) := by simp only [RM.at, hgd, ← HM.out, hdo]
            have HAT := hide hat
            clear hat hdo hgd
            clear hG hGo
            go_wp2_with (first
              | (at_builtin
                 refine wpList_app1 (cs := #[.int .i64 2]) rfl (.tmp 144) (.tmp 146) 38 rfl sErr (hS.alloc _) 4 (n := q) rfl rfl rfl (by simp) rfl rfl (by omega) ?_
                 intro A9 c9 w9 hS9 hC9))
            go_roundw
            case rel =>
              refine ⟨q + 1, m, Aw, nw, cw, Ag, ng, cg, A9, c9, Af, nf, cf, by omega, by go_num, rfl, rfl, rfl, rfl, ?_, ?_⟩
              · show _ = _
                rw [HAT.out]
              · rw [HAT.out]
                unfold RItems
                simp only [ints_app, fates_app]
                exact hS9
            case measure => simp [intOf]; omega
          by_cases hi1 : it < 0
          · have hdo : m.does 1 who it q = (2, m) := by
              have h := HOK.out.1; unfold RM.does; rw [if_neg (by omega), if_pos (by omega)]
            have hat : RM.at (RM.start N) l (q + 1) = ((RM.at (RM.start N) l q).1 ++ [2], m) := by simp only [RM.at, hgd, ← HM.out, hdo]
            have HAT := hide hat
            clear hat hdo hgd
            clear hG hGo
            go_wp2_with (first
              | (at_builtin
                 refine wpList_app1 (cs := #[.int .i64 2]) rfl (.tmp 144) (.tmp 146) 38 rfl sErr (hS.alloc _) 4 (n := q) rfl rfl rfl (by simp) rfl rfl (by omega) ?_
                 intro A9 c9 w9 hS9 hC9))
            go_roundw
            case rel =>
              refine ⟨q + 1, m, Aw, nw, cw, Ag, ng, cg, A9, c9, Af, nf, cf, by omega, by go_num, rfl, rfl, rfl, rfl, ?_, ?_⟩
              · show _ = _
                rw [HAT.out]
              · rw [HAT.out]
                unfold RItems
                simp only [ints_app, fates_app]
                exact hS9
            case measure => simp [intOf]; omega
          by_cases hi2 : 100 ≤ it
          · have hdo : m.does 1 who it q = (2, m) := by
              have h := HOK.out.1; unfold RM.does; rw [if_neg (by omega), if_pos (by omega)]
            have hat : RM.at (RM.start N) l (q + 1) = ((RM.at (RM.start N) l q).1 ++ [2], m) := by simp only [RM.at, hgd, ← HM.out, hdo]
            have HAT := hide hat
            clear hat hdo hgd
            clear hG hGo
            go_wp2_with (first
              | (at_builtin
                 refine wpList_app1 (cs := #[.int .i64 2]) rfl (.tmp 144) (.tmp 146) 38 rfl sErr (hS.alloc _) 4 (n := q) rfl rfl rfl (by simp) rfl rfl (by omega) ?_
                 intro A9 c9 w9 hS9 hC9))
            go_roundw
            case rel =>
              refine ⟨q + 1, m, Aw, nw, cw, Ag, ng, cg, A9, c9, Af, nf, cf, by omega, by go_num, rfl, rfl, rfl, rfl, ?_, ?_⟩
              · show _ = _
                rw [HAT.out]
              · rw [HAT.out]
                unfold RItems
                simp only [ints_app, fates_app]
                exact hS9
            case measure => simp [intOf]; omega
          by_cases hin : it ∈ m.gone
          · have hdo : m.does 1 who it q = (8, m) := by
              have h := HOK.out.1; unfold RM.does; rw [if_neg (by omega), if_neg (by omega), if_pos ⟨by omega, hin⟩]
            have hat : RM.at (RM.start N) l (q + 1) = ((RM.at (RM.start N) l q).1 ++ [8], m) := by simp only [RM.at, hgd, ← HM.out, hdo]
            have HAT := hide hat
            clear hat hdo hgd
            clear hG hGo
            go_wp2_with (first
              | (at_builtin
                 refine wpList_app1 (cs := #[.int .i64 8]) rfl (.tmp 144) (.tmp 146) 38 rfl sErr (hS.alloc _) 4 (n := q) rfl rfl rfl (by simp) rfl rfl (by omega) ?_
                 intro A9 c9 w9 hS9 hC9)
              | (go_at_call 56
                 refine (has_any _ _ _ _ _ m.gone it (by omega) ((hS.alloc _).rd_ 3 rfl)).mono ?_
                 rintro e w3 ⟨rfl, rfl⟩))
            go_roundw
            case rel =>
              refine ⟨q + 1, m, Aw, nw, cw, Ag, ng, cg, A9, c9, Af, nf, cf, by omega, by go_num, rfl, rfl, rfl, rfl, ?_, ?_⟩
              · show _ = _
                rw [HAT.out]
              · rw [HAT.out]
                unfold RItems
                simp only [ints_app, fates_app]
                exact hS9
            case measure => simp [intOf]; omega
          obtain ⟨j, rfl⟩ := Int.eq_ofNat_of_zero_le (show 0 ≤ who by omega)
          have hj : j < N := by omega
          have hdo : m.does 1 j it q = (0, { m with guards := m.guards.set j (it + 1) }) := by
            have h := HOK.out.1; unfold RM.does; rw [if_neg (by omega), if_neg (by omega), if_neg (by intro h9; exact hin h9.2), if_pos rfl]; rfl
          have hat : RM.at (RM.start N) l (q + 1) = ((RM.at (RM.start N) l q).1 ++ [0], { m with guards := m.guards.set j (it + 1) }) := by simp only [RM.at, hgd, ← HM.out, hdo]
          have HAT := hide hat
          clear hat hdo hgd
          have hjl : j < m.guards.length := by have h := HOK.out.1; omega
          have gG : wr.cell? ⟨w.heap.size + 1, j, none⟩ = some (.int .i64 m.guards[j]) := by rw [World.ownsRow.cellAt hG j (by omega)]; simp [ints, hjl]
          have gF := World.ownsRow.frozenAt hG j
          have hSs : ∀ o, Sep No w ((wr.setCell ⟨w.heap.size + 1, j, none⟩ (.int .i64 (it + 1))).alloc o) (RItems w N { m with guards := m.guards.set j (it + 1) } (RM.at (RM.start N) l q).1 q Aw nw cw Ag ng cg Ac cc Af nf cf) := fun o => by
            have h9 := (hS.store 1 (g := w.heap.size + 1) rfl j (.int .i64 (it + 1))).alloc o
            unfold RItems
            rw [show ints (m.guards.set j (it + 1)) = (ints m.guards).set j (.int .i64 (it + 1)) from List.map_set]
            exact h9
          clear hG hGo
          go_wp2_with (first
            | (at_builtin
               refine wpList_app1 (cs := #[.int .i64 0]) rfl (.tmp 144) (.tmp 146) 38 rfl sErr (hSs _) 4 (n := q) rfl rfl rfl (by simp) rfl rfl (by omega) ?_
               intro A9 c9 w9 hS9 hC9)
            | (go_at_call 56
               refine (has_any _ _ _ _ _ m.gone it (by omega) ((hS.alloc _).rd_ 3 rfl)).mono ?_
               rintro e w3 ⟨rfl, rfl⟩))
          go_roundw
          case rel =>
            refine ⟨q + 1, { m with guards := m.guards.set j (it + 1) }, Aw, nw, cw, Ag, ng, cg, A9, c9, Af, nf, cf, by omega, by go_num, rfl, rfl, rfl, rfl, ?_, ?_⟩
            · show _ = _
              rw [HAT.out]
            · rw [HAT.out]
              unfold RItems
              simp only [ints_app, fates_app]
              exact hS9
          case measure => simp [intOf]; omega
        · clear hk
          by_cases hw1 : who < 0
          · have hdo : m.does 2 who it q = (2, m) := by
              unfold RM.does; rw [if_neg (by omega), if_pos (by omega)]
            have hat : RM.at (RM.start N) l (q + 1) = ((RM.at (RM.start N) l q).1 ++ [2], m) := by simp only [RM.at, hgd, ← HM.out, hdo]
            have HAT := hide hat
            clear hat hdo hgd
            clear hG hGo
            go_wp2_with (first
              | (at_builtin
                 refine wpList_app1 (cs := #[.int .i64 2]) rfl (.tmp 144) (.tmp 146) 38 rfl sErr (hS.alloc _) 4 (n := q) rfl rfl rfl (by simp) rfl rfl (by omega) ?_
                 intro A9 c9 w9 hS9 hC9))
            go_roundw
            case rel =>
              refine ⟨q + 1, m, Aw, nw, cw, Ag, ng, cg, A9, c9, Af, nf, cf, by omega, by go_num, rfl, rfl, rfl, rfl, ?_, ?_⟩
              · show _ = _
                rw [HAT.out]
              · rw [HAT.out]
                unfold RItems
                simp only [ints_app, fates_app]
                exact hS9
            case measure => simp [intOf]; omega
          by_cases hw2 : (N : Int) ≤ who
          · have hdo : m.does 2 who it q = (2, m) := by
              have h := HOK.out.1; unfold RM.does; rw [if_neg (by omega), if_pos (by omega)]
            have hat : RM.at (RM.start N) l (q + 1) = ((RM.at (RM.start N) l q).1 ++ [2], m) := by simp only [RM.at, hgd, ← HM.out, hdo]
            have HAT := hide hat
            clear hat hdo hgd
            clear hG hGo
            go_wp2_with (first
              | (at_builtin
                 refine wpList_app1 (cs := #[.int .i64 2]) rfl (.tmp 144) (.tmp 146) 38 rfl sErr (hS.alloc _) 4 (n := q) rfl rfl rfl (by simp) rfl rfl (by omega) ?_
                 intro A9 c9 w9 hS9 hC9))
            go_roundw
            case rel =>
              refine ⟨q + 1, m, Aw, nw, cw, Ag, ng, cg, A9, c9, Af, nf, cf, by omega, by go_num, rfl, rfl, rfl, rfl, ?_, ?_⟩
              · show _ = _
                rw [HAT.out]
              · rw [HAT.out]
                unfold RItems
                simp only [ints_app, fates_app]
                exact hS9
            case measure => simp [intOf]; omega
          obtain ⟨j, rfl⟩ := Int.eq_ofNat_of_zero_le (show 0 ≤ who by omega)
          have hj : j < N := by omega
          have hdo : m.does 2 j it q = (0, { m with guards := m.guards.set j (0) }) := by
            have h := HOK.out.1; unfold RM.does; rw [if_neg (by omega), if_neg (by omega), if_neg (by omega), if_neg (by omega), if_pos rfl]; rfl
          have hat : RM.at (RM.start N) l (q + 1) = ((RM.at (RM.start N) l q).1 ++ [0], { m with guards := m.guards.set j (0) }) := by simp only [RM.at, hgd, ← HM.out, hdo]
          have HAT := hide hat
          clear hat hdo hgd
          have hjl : j < m.guards.length := by have h := HOK.out.1; omega
          have gG : wr.cell? ⟨w.heap.size + 1, j, none⟩ = some (.int .i64 m.guards[j]) := by rw [World.ownsRow.cellAt hG j (by omega)]; simp [ints, hjl]
          have gF := World.ownsRow.frozenAt hG j
          have hSs : ∀ o, Sep No w ((wr.setCell ⟨w.heap.size + 1, j, none⟩ (.int .i64 (0))).alloc o) (RItems w N { m with guards := m.guards.set j (0) } (RM.at (RM.start N) l q).1 q Aw nw cw Ag ng cg Ac cc Af nf cf) := fun o => by
            have h9 := (hS.store 1 (g := w.heap.size + 1) rfl j (.int .i64 (0))).alloc o
            unfold RItems
            rw [show ints (m.guards.set j (0)) = (ints m.guards).set j (.int .i64 (0)) from List.map_set]
            exact h9
          clear hG hGo
          go_wp2_with (first
            | (at_builtin
               refine wpList_app1 (cs := #[.int .i64 0]) rfl (.tmp 144) (.tmp 146) 38 rfl sErr (hSs _) 4 (n := q) rfl rfl rfl (by simp) rfl rfl (by omega) ?_
               intro A9 c9 w9 hS9 hC9))
          go_roundw
          case rel =>
            refine ⟨q + 1, { m with guards := m.guards.set j (0) }, Aw, nw, cw, Ag, ng, cg, A9, c9, Af, nf, cf, by omega, by go_num, rfl, rfl, rfl, rfl, ?_, ?_⟩
            · show _ = _
              rw [HAT.out]
            · rw [HAT.out]
              unfold RItems
              simp only [ints_app, fates_app]
              exact hS9
          case measure => simp [intOf]; omega
        · clear hk
          by_cases hw1 : who < 0
          · have hdo : m.does 3 who it q = (2, m) := by
              unfold RM.does; rw [if_neg (by omega), if_pos (by omega)]
            have hat : RM.at (RM.start N) l (q + 1) = ((RM.at (RM.start N) l q).1 ++ [2], m) := by simp only [RM.at, hgd, ← HM.out, hdo]
            have HAT := hide hat
            clear hat hdo hgd
            clear hG hGo
            go_wp2_with (first
              | (at_builtin
                 refine wpList_app1 (cs := #[.int .i64 2]) rfl (.tmp 144) (.tmp 146) 38 rfl sErr (hS.alloc _) 4 (n := q) rfl rfl rfl (by simp) rfl rfl (by omega) ?_
                 intro A9 c9 w9 hS9 hC9))
            go_roundw
            case rel =>
              refine ⟨q + 1, m, Aw, nw, cw, Ag, ng, cg, A9, c9, Af, nf, cf, by omega, by go_num, rfl, rfl, rfl, rfl, ?_, ?_⟩
              · show _ = _
                rw [HAT.out]
              · rw [HAT.out]
                unfold RItems
                simp only [ints_app, fates_app]
                exact hS9
            case measure => simp [intOf]; omega
          by_cases hw2 : (N : Int) ≤ who
          · have hdo : m.does 3 who it q = (2, m) := by
              have h := HOK.out.1; unfold RM.does; rw [if_neg (by omega), if_pos (by omega)]
            have hat : RM.at (RM.start N) l (q + 1) = ((RM.at (RM.start N) l q).1 ++ [2], m) := by simp only [RM.at, hgd, ← HM.out, hdo]
            have HAT := hide hat
            clear hat hdo hgd
            clear hG hGo
            go_wp2_with (first
              | (at_builtin
                 refine wpList_app1 (cs := #[.int .i64 2]) rfl (.tmp 144) (.tmp 146) 38 rfl sErr (hS.alloc _) 4 (n := q) rfl rfl rfl (by simp) rfl rfl (by omega) ?_
                 intro A9 c9 w9 hS9 hC9))
            go_roundw
            case rel =>
              refine ⟨q + 1, m, Aw, nw, cw, Ag, ng, cg, A9, c9, Af, nf, cf, by omega, by go_num, rfl, rfl, rfl, rfl, ?_, ?_⟩
              · show _ = _
                rw [HAT.out]
              · rw [HAT.out]
                unfold RItems
                simp only [ints_app, fates_app]
                exact hS9
            case measure => simp [intOf]; omega
          by_cases hi1 : it < 0
          · have hdo : m.does 3 who it q = (2, m) := by
              have h := HOK.out.1; unfold RM.does; rw [if_neg (by omega), if_pos (by omega)]
            have hat : RM.at (RM.start N) l (q + 1) = ((RM.at (RM.start N) l q).1 ++ [2], m) := by simp only [RM.at, hgd, ← HM.out, hdo]
            have HAT := hide hat
            clear hat hdo hgd
            clear hG hGo
            go_wp2_with (first
              | (at_builtin
                 refine wpList_app1 (cs := #[.int .i64 2]) rfl (.tmp 144) (.tmp 146) 38 rfl sErr (hS.alloc _) 4 (n := q) rfl rfl rfl (by simp) rfl rfl (by omega) ?_
                 intro A9 c9 w9 hS9 hC9))
            go_roundw
            case rel =>
              refine ⟨q + 1, m, Aw, nw, cw, Ag, ng, cg, A9, c9, Af, nf, cf, by omega, by go_num, rfl, rfl, rfl, rfl, ?_, ?_⟩
              · show _ = _
                rw [HAT.out]
              · rw [HAT.out]
                unfold RItems
                simp only [ints_app, fates_app]
                exact hS9
            case measure => simp [intOf]; omega
          by_cases hi2 : 100 ≤ it
          · have hdo : m.does 3 who it q = (2, m) := by
              have h := HOK.out.1; unfold RM.does; rw [if_neg (by omega), if_pos (by omega)]
            have hat : RM.at (RM.start N) l (q + 1) = ((RM.at (RM.start N) l q).1 ++ [2], m) := by simp only [RM.at, hgd, ← HM.out, hdo]
            have HAT := hide hat
            clear hat hdo hgd
            clear hG hGo
            go_wp2_with (first
              | (at_builtin
                 refine wpList_app1 (cs := #[.int .i64 2]) rfl (.tmp 144) (.tmp 146) 38 rfl sErr (hS.alloc _) 4 (n := q) rfl rfl rfl (by simp) rfl rfl (by omega) ?_
                 intro A9 c9 w9 hS9 hC9))
            go_roundw
            case rel =>
              refine ⟨q + 1, m, Aw, nw, cw, Ag, ng, cg, A9, c9, Af, nf, cf, by omega, by go_num, rfl, rfl, rfl, rfl, ?_, ?_⟩
              · show _ = _
                rw [HAT.out]
              · rw [HAT.out]
                unfold RItems
                simp only [ints_app, fates_app]
                exact hS9
            case measure => simp [intOf]; omega
          by_cases hin : it ∈ m.gone
          · have hdo : m.does 3 who it q = (8, m) := by
              have h := HOK.out.1; unfold RM.does; rw [if_neg (by omega), if_neg (by omega), if_pos ⟨by omega, hin⟩]
            have hat : RM.at (RM.start N) l (q + 1) = ((RM.at (RM.start N) l q).1 ++ [8], m) := by simp only [RM.at, hgd, ← HM.out, hdo]
            have HAT := hide hat
            clear hat hdo hgd
            clear hG hGo
            go_wp2_with (first
              | (at_builtin
                 refine wpList_app1 (cs := #[.int .i64 8]) rfl (.tmp 144) (.tmp 146) 38 rfl sErr (hS.alloc _) 4 (n := q) rfl rfl rfl (by simp) rfl rfl (by omega) ?_
                 intro A9 c9 w9 hS9 hC9)
              | (go_at_call 56
                 refine (has_any _ _ _ _ _ m.gone it (by omega) ((hS.alloc _).rd_ 3 rfl)).mono ?_
                 rintro e w3 ⟨rfl, rfl⟩))
            go_roundw
            case rel =>
              refine ⟨q + 1, m, Aw, nw, cw, Ag, ng, cg, A9, c9, Af, nf, cf, by omega, by go_num, rfl, rfl, rfl, rfl, ?_, ?_⟩
              · show _ = _
                rw [HAT.out]
              · rw [HAT.out]
                unfold RItems
                simp only [ints_app, fates_app]
                exact hS9
            case measure => simp [intOf]; omega
          obtain ⟨j, rfl⟩ := Int.eq_ofNat_of_zero_le (show 0 ≤ who by omega)
          have hj : j < N := by omega
          have hdo : m.does 3 j it q = (0, { m with gone := m.gone ++ [it], waits := m.waits ++ [(it, (j : Int))] }) := by
            have h := HOK.out.1; unfold RM.does; rw [if_neg (by omega), if_neg (by omega), if_neg (by intro h9; exact hin h9.2), if_neg (by omega), if_neg (by omega), if_pos rfl]
          have hat : RM.at (RM.start N) l (q + 1) = ((RM.at (RM.start N) l q).1 ++ [0], { m with gone := m.gone ++ [it], waits := m.waits ++ [(it, (j : Int))] }) := by simp only [RM.at, hgd, ← HM.out, hdo]
          have HAT := hide hat
          clear hat hdo hgd
          have hSd : ∀ o, Sep No w (wr.alloc (.cells o 102)) (RItems w N m (RM.at (RM.start N) l q).1 q Aw nw cw Ag ng cg Ac cc Af nf cf ++ [blkI wr.heap.size 102 o]) := fun o => hS.blkAt 102 o rfl
          clear hG hGo
          go_wp2_with (first
            | (at_builtin
               refine wpList_app1 (cs := #[.int .i64 it]) rfl (.tmp 99) (.tmp 102) 40 rfl sInt (hSd _) 3 (n := ng) rfl rfl rfl (by simp) rfl rfl (by omega) ?_
               intro A7 c7 w7 hS7 hC7
               obtain ⟨y1, y2, y3⟩ := hS7.rules 6 (g := wr.heap.size) (t := 102) rfl)
            | (at_builtin
               refine wpList_app1 (cs := #[.int .i64 it, .int .i64 j]) rfl (.tmp 104) (.tmp 110) 39 rfl sFate hS7 2 (n := nw) rfl rfl rfl (by simp) rfl rfl (by omega) ?_
               intro A8 c8 w8 hS8 hC8)
            | (at_builtin
               refine wpList_app1 (cs := #[.int .i64 0]) rfl (.tmp 144) (.tmp 146) 38 rfl sErr hS8 4 (n := q) rfl rfl rfl (by simp) rfl rfl (by omega) ?_
               intro A9 c9 w9 hS9 hC9)
            | (go_at_call 56
               refine (has_any _ _ _ _ _ m.gone it (by omega) ((hS.alloc _).rd_ 3 rfl)).mono ?_
               rintro e w3 ⟨rfl, rfl⟩))
          go_roundw
          case rel =>
            refine ⟨q + 1, { m with gone := m.gone ++ [it], waits := m.waits ++ [(it, (j : Int))] }, A8, nw + 1, c8, A7, ng + 1, c7, A9, c9, Af, nf, cf, by omega, by go_num, rfl, rfl, rfl, rfl, ?_, ?_⟩
            · show _ = _
              rw [HAT.out]
            · rw [HAT.out]
              unfold RItems
              simp only [ints_app, fates_app]
              exact hS9.sub (List.sublist_append_left _ [_])
          case measure => simp [intOf]; omega
        · clear hk
          by_cases hw1 : who < 0
          · have hdo : m.does 4 who it q = (2, m) := by
              unfold RM.does; rw [if_neg (by omega), if_pos (by omega)]
            have hat : RM.at (RM.start N) l (q + 1) = ((RM.at (RM.start N) l q).1 ++ [2], m) := by simp only [RM.at, hgd, ← HM.out, hdo]
            have HAT := hide hat
            clear hat hdo hgd
            clear hG hGo
            go_wp2_with (first
              | (at_builtin
                 refine wpList_app1 (cs := #[.int .i64 2]) rfl (.tmp 144) (.tmp 146) 38 rfl sErr (hS.alloc _) 4 (n := q) rfl rfl rfl (by simp) rfl rfl (by omega) ?_
                 intro A9 c9 w9 hS9 hC9))
            go_roundw
            case rel =>
              refine ⟨q + 1, m, Aw, nw, cw, Ag, ng, cg, A9, c9, Af, nf, cf, by omega, by go_num, rfl, rfl, rfl, rfl, ?_, ?_⟩
              · show _ = _
                rw [HAT.out]
              · rw [HAT.out]
                unfold RItems
                simp only [ints_app, fates_app]
                exact hS9
            case measure => simp [intOf]; omega
          by_cases hw2 : (N : Int) ≤ who
          · have hdo : m.does 4 who it q = (2, m) := by
              have h := HOK.out.1; unfold RM.does; rw [if_neg (by omega), if_pos (by omega)]
            have hat : RM.at (RM.start N) l (q + 1) = ((RM.at (RM.start N) l q).1 ++ [2], m) := by simp only [RM.at, hgd, ← HM.out, hdo]
            have HAT := hide hat
            clear hat hdo hgd
            clear hG hGo
            go_wp2_with (first
              | (at_builtin
                 refine wpList_app1 (cs := #[.int .i64 2]) rfl (.tmp 144) (.tmp 146) 38 rfl sErr (hS.alloc _) 4 (n := q) rfl rfl rfl (by simp) rfl rfl (by omega) ?_
                 intro A9 c9 w9 hS9 hC9))
            go_roundw
            case rel =>
              refine ⟨q + 1, m, Aw, nw, cw, Ag, ng, cg, A9, c9, Af, nf, cf, by omega, by go_num, rfl, rfl, rfl, rfl, ?_, ?_⟩
              · show _ = _
                rw [HAT.out]
              · rw [HAT.out]
                unfold RItems
                simp only [ints_app, fates_app]
                exact hS9
            case measure => simp [intOf]; omega
          obtain ⟨j, rfl⟩ := Int.eq_ofNat_of_zero_le (show 0 ≤ who by omega)
          have hj : j < N := by omega
          have hdo : m.does 4 j it q = (0, { m with freed := m.freed ++ m.scanFreed j q m.waits, waits := m.scanLeft j m.waits }) := by
            have h := HOK.out.1; unfold RM.does; rw [if_neg (by omega), if_neg (by omega), if_neg (by omega), if_neg (by omega), if_neg (by omega), if_neg (by omega)]
          have hat : RM.at (RM.start N) l (q + 1) = ((RM.at (RM.start N) l q).1 ++ [0], { m with freed := m.freed ++ m.scanFreed j q m.waits, waits := m.scanLeft j m.waits }) := by simp only [RM.at, hgd, ← HM.out, hdo]
          have HAT := hide hat
          clear hat hdo hgd
          obtain ⟨wo, rfl⟩ : ∃ wo : World, wo = wr := ⟨_, rfl⟩
          have hSl : ∀ o, Sep No w (wo.alloc (.cells o 102)) (rowI 105 2 none 0 0 [] :: (RItems w N m (RM.at (RM.start N) l q).1 q Aw nw cw Ag ng cg Ac cc Af nf cf ++ [blkI wo.heap.size 102 o])) := fun o => (hS.blkAt 102 o rfl).nilRow0 105 2
          have HSL := hide hSl
          have hwl : m.waits.length = nw := by
            have h9 : wo.ownsRow 0 105 2 (.slice Aw nw cw) nw (fates m.waits) := hS.get 2 rfl
            have h9 := h9.1; rw [fates_length] at h9; omega
          have HWL := hide hwl
          have hwb := RM.at_waits N l q
          rw [← HM.out] at hwb
          have HWB := hide hwb
          clear hG hGo hSl hwl hwb
          go_wp2_with fail
          go_loopw [9, 14, 114] (fun f9 l14 i w2 => ∃ (p : Nat) (Al : Option Addr) (nl cl : Nat) (Af2 : Option Addr) (nf2 cf2 : Nat), p ≤ nw ∧ i = .int .i64 p ∧ f9 = .slice Af2 nf2 cf2 ∧ l14 = .slice Al nl cl ∧ nl ≤ p ∧ nf2 ≤ nf + p ∧
            Sep No w w2 (rowI 105 2 Al nl cl (fates (m.scanLeft j (m.waits.take p))) :: (RItems w N { m with freed := m.freed ++ m.scanFreed j q (m.waits.take p) } (RM.at (RM.start N) l q).1 q Aw nw cw Ag ng cg Ac cc Af2 nf2 cf2 ++ [blkI wo.heap.size 102 #[.int .i64 4, .int .i64 j, .int .i64 it]]))) (fun _ _ i _ => nw - (intOf i).toNat)
          case atStart => exact ⟨0, none, 0, 0, Af, nf, cf, by omega, rfl, rfl, rfl, by omega, by omega, by simpa [RM.scanLeft, RM.scanFreed, fates] using HSL.out _⟩
          case round =>
            clear HSL hS had e0 e1 e2 gl
            obtain ⟨p, Al, nl, cl, Af2, nf2, cf2, hp, rfl, rfl, rfl, hnl, hnf2, hS⟩ := hrel
            obtain ⟨y1, y2, y3⟩ := hS.rules 7 (g := wo.heap.size) (t := 102) rfl
            by_cases hlp : p < nw
            · have hpl : p < m.waits.length := by rw [HWL.out]; exact hlp
              obtain ⟨ad2, hA2, _, had2, hc, hd⟩ := (hS.rd_ 3 rfl).atN hlp
              have e0 := hc _ (fates_0 m.waits p hpl)
              have e1 := hd 0 _ (fates_1 m.waits p hpl)
              have hb1 := HWB.out _ (List.getElem_mem hpl)
              have HT := hide (List.take_succ_eq_append_getElem hpl)
              have hb2 := hb1.1
              have hb3 := hb1.2
              clear hc hd hb1
              generalize m.waits[p] = xx at *
              obtain ⟨x1, x2⟩ := xx
              dsimp only at e0 e1 hb2 hb3
              subst hA2
              by_cases hx : x2 = (j : Int)
              · have hx' : (x2 == (j : Int)) = true := by simp [hx]
                have HX := hide hx
                clear hx
                by_cases hi : x1 + 1 ∈ m.guards
                · have hpr : (x2 == (j : Int) && !decide (x1 + 1 ∈ m.guards)) = false := by rw [hx']; simp [hi]
                  have HP := hide hpr
                  clear hpr
                  go_wp2_with (first
                    | (at_builtin
                       refine wpList_app1 (cs := #[.int .i64 x1, .int .i64 x2]) rfl (.tmp 138) (.tmp 140) 39 rfl sFate (hS.alloc _) 0 (n := nl) rfl rfl rfl (by simp) rfl rfl (by omega) ?_
                       intro A8 c8 w8 hS8 hC8)
                    | (go_at_call 56
                       refine (has_any _ _ _ _ _ m.guards (x1 + 1) (by omega) ((hS.alloc _).rd_ 2 rfl)).mono ?_
                       rintro e w3 ⟨rfl, rfl⟩))
                  go_roundw
                  case rel =>
                    refine ⟨p + 1, A8, nl + 1, c8, Af2, nf2, cf2, by omega, by go_num, rfl, rfl, by omega, by omega, ?_⟩
                    have h1 : m.scanLeft j (m.waits.take (p + 1)) = m.scanLeft j (m.waits.take p) ++ [(x1, x2)] := by
                      rw [HT.out]; simp only [RM.scanLeft, List.filter_append, List.filter_cons, HP.out, Bool.not_false, if_true, List.filter_nil]
                    have h2 : m.scanFreed j q (m.waits.take (p + 1)) = m.scanFreed j q (m.waits.take p) := by
                      rw [HT.out]; simp only [RM.scanFreed, List.filter_append, List.filter_cons, HP.out, Bool.false_eq_true, if_false, List.filter_nil, List.append_nil]
                    rw [h1, h2]
                    simp only [fates_app]
                    exact hS8
                  case measure => simp [intOf]; omega
                · have hpr : (x2 == (j : Int) && !decide (x1 + 1 ∈ m.guards)) = true := by rw [hx']; simp [hi]
                  have HP := hide hpr
                  clear hpr
                  go_wp2_with (first
                    | (at_builtin
                       refine wpList_app1 (cs := #[.int .i64 x1, .int .i64 q]) rfl (.tmp 131) (.tmp 136) 39 rfl sFate (hS.alloc _) 6 (n := nf2) rfl rfl rfl (by simp) rfl rfl (by omega) ?_
                       intro A8 c8 w8 hS8 hC8)
                    | (go_at_call 56
                       refine (has_any _ _ _ _ _ m.guards (x1 + 1) (by omega) ((hS.alloc _).rd_ 2 rfl)).mono ?_
                       rintro e w3 ⟨rfl, rfl⟩))
                  go_roundw
                  case rel =>
                    refine ⟨p + 1, Al, nl, cl, A8, nf2 + 1, c8, by omega, by go_num, rfl, rfl, by omega, by omega, ?_⟩
                    have h1 : m.scanLeft j (m.waits.take (p + 1)) = m.scanLeft j (m.waits.take p) := by
                      rw [HT.out]; simp only [RM.scanLeft, List.filter_append, List.filter_cons, HP.out, Bool.not_true, Bool.false_eq_true, if_false, List.filter_nil, List.append_nil]
                    have h2 : m.scanFreed j q (m.waits.take (p + 1)) = m.scanFreed j q (m.waits.take p) ++ [(x1, (q : Int))] := by
                      rw [HT.out]; simp only [RM.scanFreed, List.filter_append, List.filter_cons, HP.out, if_true, List.filter_nil, List.map_append, List.map_cons, List.map_nil]
                    rw [h1, h2, ← List.append_assoc]
                    unfold RItems at hS8 ⊢
                    simp only [fates_app]
                    exact hS8
                  case measure => simp [intOf]; omega
              · have hx' : (x2 == (j : Int)) = false := by simp [hx]
                have hpr : (x2 == (j : Int) && !decide (x1 + 1 ∈ m.guards)) = false := by rw [hx']; rfl
                have HP := hide hpr
                clear hpr hx
                go_wp2_with (first
                  | (at_builtin
                     refine wpList_app1 (cs := #[.int .i64 x1, .int .i64 x2]) rfl (.tmp 138) (.tmp 140) 39 rfl sFate (hS.alloc _) 0 (n := nl) rfl rfl rfl (by simp) rfl rfl (by omega) ?_
                     intro A8 c8 w8 hS8 hC8)
                  | (go_at_call 56
                     refine (has_any _ _ _ _ _ m.guards (x1 + 1) (by omega) ((hS.alloc _).rd_ 2 rfl)).mono ?_
                     rintro e w3 ⟨rfl, rfl⟩))
                go_roundw
                case rel =>
                  refine ⟨p + 1, A8, nl + 1, c8, Af2, nf2, cf2, by omega, by go_num, rfl, rfl, by omega, by omega, ?_⟩
                  have h1 : m.scanLeft j (m.waits.take (p + 1)) = m.scanLeft j (m.waits.take p) ++ [(x1, x2)] := by
                    rw [HT.out]; simp only [RM.scanLeft, List.filter_append, List.filter_cons, HP.out, Bool.not_false, if_true, List.filter_nil]
                  have h2 : m.scanFreed j q (m.waits.take (p + 1)) = m.scanFreed j q (m.waits.take p) := by
                    rw [HT.out]; simp only [RM.scanFreed, List.filter_append, List.filter_cons, HP.out, Bool.false_eq_true, if_false, List.filter_nil, List.append_nil]
                  rw [h1, h2]
                  simp only [fates_app]
                  exact hS8
                case measure => simp [intOf]; omega
            · obtain rfl : p = nw := by omega
              have hall : m.waits.take p = m.waits := List.take_of_length_le (by rw [HWL.out]; omega)
              rw [hall] at hS
              clear hall
              go_wp2_with (first
                | (at_builtin
                   refine wpList_app1 (cs := #[.int .i64 0]) rfl (.tmp 144) (.tmp 146) 38 rfl sErr hS 5 (n := q) rfl rfl rfl (by simp) rfl rfl (by omega) ?_
                   intro A9 c9 w9 hS9 hC9))
              go_roundw
              case rel =>
                refine ⟨q + 1, { m with freed := m.freed ++ m.scanFreed j q m.waits, waits := m.scanLeft j m.waits }, Al, nl, cl, Ag, ng, cg, A9, c9, Af2, nf2, cf2, by omega, by go_num, rfl, rfl, rfl, rfl, ?_, ?_⟩
                · show _ = _
                  rw [HAT.out]
                · rw [HAT.out]
                  unfold RItems
                  simp only [ints_app]
                  have h9 := hS9.sub (l := [_, _, _, _, _, _]) (.cons_cons _ (.cons_cons _ (.cons_cons _ (.cons _ (.cons_cons _ (.cons_cons _ (.cons_cons _ (.cons _ .slnil))))))))
                  exact h9.perm (.trans (.swap _ _ _) (.cons _ (.swap _ _ _)))
              case measure => simp [intOf]; omega
    · obtain rfl : q = n := by omega
      obtain ⟨wo, rfl⟩ : ∃ wo : World, wo = wr := ⟨_, rfl⟩
      have hS2 := hS.nilRow0 3 1
      have HS2 := hide hS2
      have hwl : m.waits.length = nw := by have h9 := hW.1; rw [fates_length] at h9; omega
      have HWL := hide hwl
      clear hG hGo hW hF hS hS2 hwl
      go_wp2_with fail
      go_loopw [17, 18] (fun l17 i w2 => ∃ (t : Nat) (Al : Option Addr) (nl cl : Nat), t ≤ N ∧ i = .int .i64 t ∧ l17 = .slice Al nl cl ∧ nl ≤ t * 100 ∧
        Sep No w w2 (rowI 3 1 Al nl cl (ints ((List.range t).flatMap fun t => (m.waits.filter fun x => x.2 == Int.ofNat t).map Prod.fst)) :: RItems w N m (RM.at (RM.start N) l q).1 q Aw nw cw Ag ng cg Ac cc Af nf cf)) (fun _ i _ => N - (intOf i).toNat)
      case atStart => exact ⟨0, none, 0, 0, by omega, rfl, rfl, by omega, HS2.out⟩
      case round =>
        clear HS2
        obtain ⟨t, Al, nl, cl, ht, rfl, rfl, hnl, hS⟩ := hrel
        by_cases hlt3 : t < N
        · go_wp2_with fail
          have HS3 := hide hS
          clear hS
          go_loopw [17, 156] (fun l17 i w3 => ∃ (p : Nat) (Al : Option Addr) (nl cl : Nat), p ≤ nw ∧ i = .int .i64 p ∧ l17 = .slice Al nl cl ∧ nl ≤ t * 100 + p ∧
            Sep No w w3 (rowI 3 1 Al nl cl (ints (((List.range t).flatMap fun t => (m.waits.filter fun x => x.2 == Int.ofNat t).map Prod.fst) ++ (((m.waits.take p).filter fun x => x.2 == Int.ofNat t).map Prod.fst))) :: RItems w N m (RM.at (RM.start N) l q).1 q Aw nw cw Ag ng cg Ac cc Af nf cf)) (fun _ i _ => nw - (intOf i).toNat)
          case atStart => exact ⟨0, Al, nl, cl, by omega, rfl, rfl, by omega, by simpa using HS3.out⟩
          case round =>
            clear HS3 hnl
            obtain ⟨p, Al, nl, cl, hp, rfl, rfl, hnl, hS⟩ := hrel
            by_cases hlp : p < nw
            · have hpl : p < m.waits.length := by rw [HWL.out]; exact hlp
              obtain ⟨ad2, hA2, _, had2, hc, hd⟩ := (hS.rd_ 3 rfl).atN hlp
              have e0 := hc _ (fates_0 m.waits p hpl)
              have e1 := hd 0 _ (fates_1 m.waits p hpl)
              have HT := hide (List.take_succ_eq_append_getElem hpl)
              clear hc hd
              generalize m.waits[p] = xx at *
              obtain ⟨x1, x2⟩ := xx
              dsimp only at e0 e1
              subst hA2
              by_cases hx : x2 = (t : Int)
              · have hx' : (x2 == (t : Int)) = true := by simp [hx]
                have HX := hide (show (x2 == Int.ofNat t) = true from hx')
                clear hx
                go_wp2_with (first
                  | (at_builtin
                     refine wpList_app1 (cs := #[.int .i64 x1]) rfl (.tmp 164) (.tmp 167) 40 rfl sInt (hS.alloc _) 0 (n := nl) rfl rfl rfl (by simp) rfl rfl (by omega) ?_
                     intro A8 c8 w8 hS8 hC8))
                go_roundw
                case rel =>
                  refine ⟨p + 1, A8, nl + 1, c8, by omega, by go_num, rfl, by omega, ?_⟩
                  have h1 : ((m.waits.take (p + 1)).filter fun x => x.2 == Int.ofNat t).map Prod.fst = (((m.waits.take p).filter fun x => x.2 == Int.ofNat t).map Prod.fst) ++ [x1] := by
                    rw [HT.out]; simp only [List.filter_append, List.filter_cons, HX.out, if_true, List.filter_nil, List.map_append, List.map_cons, List.map_nil]
                  rw [h1, ← List.append_assoc]
                  simp only [ints_app]
                  exact hS8
                case measure => simp [intOf]; omega
              · have hx' : (x2 == (t : Int)) = false := by simp [hx]
                have HX := hide (show (x2 == Int.ofNat t) = false from hx')
                clear hx
                go_wp2_with fail
                go_roundw
                case rel =>
                  refine ⟨p + 1, Al, nl, cl, by omega, by go_num, rfl, by omega, ?_⟩
                  have h1 : ((m.waits.take (p + 1)).filter fun x => x.2 == Int.ofNat t).map Prod.fst = (((m.waits.take p).filter fun x => x.2 == Int.ofNat t).map Prod.fst) := by
                    rw [HT.out]; simp only [List.filter_append, List.filter_cons, HX.out, Bool.false_eq_true, if_false, List.filter_nil, List.append_nil]
                  rw [h1]
                  exact hS.alloc _
                case measure => simp [intOf]; omega
            · obtain rfl : p = nw := by omega
              have hall : m.waits.take p = m.waits := List.take_of_length_le (by rw [HWL.out]; omega)
              rw [hall] at hS
              clear hall
              go_wp2_with fail
              go_roundw
              case rel =>
                refine ⟨t + 1, Al, nl, cl, by omega, by go_num, rfl, by have h9 := HWL.out; have h8 := HOK.out; omega, ?_⟩
                rw [List.range_succ, List.flatMap_append, List.flatMap_cons, List.flatMap_nil, List.append_nil]
                exact hS
              case measure => simp [intOf]; omega
        · obtain rfl : t = N := by omega
          obtain ⟨y1, y2, y3, y4⟩ := hS.rules 1 (g := w.heap.size) (t := 42) rfl
          go_wp2_with fail
          refine (freeing_any _ _ _ _ _ _ _ _ _ _).mono ?_
          rintro e w3 ⟨rfl, hb3⟩
          have hS4 := hS.below hb3
          clear y1 y2 y3 y4
          obtain ⟨y1, y2, y3, y4⟩ := hS4.rules 1 (g := w.heap.size) (t := 42) rfl
          go_wp2_with fail
          have hF := ((hS4.set_ 1 (g := w.heap.size) (t := 42) rfl 0 (.slice Ac q cc)).set_ 1 (g := w.heap.size) (t := 42) rfl 1 (.slice Af nf cf)).set_ 1 (g := w.heap.size) (t := 42) rfl 2 (.slice Al nl cl)
          refine bodyPost_ret (v := .agg #[.slice Ac q cc, .slice Af nf cf, .slice Al nl cl]) (by simp [results, Try.results25, go_sem, y1]) rfl ⟨_, rfl, ?_, ?_⟩
          · exact hF.below_
          · rw [← HM.out]
            exact ⟨_, _, _, _, _, _, _, _, _, rfl, hF.rd 5 rfl, hF.rd 6 rfl, hF.rd 0 rfl⟩
end Go.Proofs.Ytpbafmdebflbpaa
