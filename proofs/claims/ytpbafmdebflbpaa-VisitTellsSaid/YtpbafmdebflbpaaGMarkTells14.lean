/- Marks: Cleared. The reference's Refers, Dist, Reach. The reference's Dist, Reach: the walks. -/
import Derived.Test.YtpbafmdebflbpaaGMarkTells13
import Derived.Test.YtpbafmdebflbpaaGMarkTells7
import Derived.Deep.Cut
import Derived.Deep.RegionLaw
import Derived.Test.YtpbafmdebflbpaaGMarkTells10
set_option linter.unusedSimpArgs false
set_option linter.unusedVariables false
namespace Go.Proofs.Ytpbafmdebflbpaa
open Go.RowKit

theorem wsIn_of_row {w : World} {e n c : Nat} {A : Option Addr} {xs : List Int} (h : w.ownsRow 0 e 1 (.slice A n c) n (u64s xs)) (hx : ∀ x ∈ xs, 0 ≤ x ∧ x ≤ 18446744073709551615) : WsIn w A n c xs := by
  refine ⟨Rd.of_own h (fun _ _ => trivial), ?_, ?_, hx⟩
  · rcases h.2 with ⟨hv, _⟩ | ⟨g, cap, cur, hv, _, _, h1, h2, _⟩
    · injection hv with _ h1 h2; subst h1 h2; omega
    · injection hv with _ _ h3; subst h3; simp only [maxLen] at h2; omega
  · intro hA
    subst hA
    rcases h.2 with ⟨hv, _⟩ | ⟨g, cap, cur, hv, _⟩
    · injection hv with _ h1 h2; exact ⟨h1, h2⟩
    · injection hv with h1; cases h1
theorem ints_get (l : List Int) (k : Nat) (h : k < l.length) : (ints l)[k]? = some (.int .i64 l[k]) := by simp [ints, List.getElem?_eq_getElem h]
theorem u64s_get (l : List Int) (k : Nat) : (u64s l)[k]? = l[k]?.map (Value.int .u64) := by simp [u64s]
theorem u64s_set (l : List Int) (k : Nat) (x : Int) : (u64s l).set k (.int .u64 x) = u64s (l.set k x) := by unfold u64s; rw [List.map_set]
/-- The marks as they stand, the first k struck. -/
def strk (ws : List Int) (pre : List (Nat × Nat)) (k : Nat) : Nat → Bool := fun i => decide (k ≤ i) && hMark (ws.getD (plcN pre i) 0)
theorem strk_zero (ws : List Int) (pre : List (Nat × Nat)) : strk ws pre 0 = fun i => hMark (ws.getD (plcN pre i) 0) := by funext i; simp [strk]
theorem strk_succ (ws : List Int) (pre : List (Nat × Nat)) (k : Nat) : addS (strk ws pre k) k false = strk ws pre (k + 1) := by
  funext i
  unfold addS strk
  by_cases h : i = k
  · subst h; simp; intro h; omega
  · rw [if_neg h]
    congr 1
    rw [decide_eq_decide]; omega
theorem strk_end (ws : List Int) (pre : List (Nat × Nat)) : mkW ws pre (strk ws pre pre.length) = mkW ws pre (fun _ => false) :=
  mkW_congr ws pre fun i hi => by unfold strk; rw [decide_eq_false (by omega)]; rfl
theorem plc_get {pre : List (Nat × Nat)} {k : Nat} (h : k < pre.length) : (pre[k].1 : Nat) = plcN pre k := by
  unfold plcN; rw [List.getD_eq_getElem?_getD, List.getElem?_eq_getElem h]; rfl
theorem ArnOk.ofRange {nW : Nat} {ws : List Int} (h : ArnOk nW ws) {i : Nat} (hi : i < (parse nW ws 0).1.length) (S : Nat → Bool) : 0 ≤ headW (lenN (parse nW ws 0).1 i : Int) (S i) (ageN ws (parse nW ws 0).1 i) ∧ headW (lenN (parse nW ws 0).1 i : Int) (S i) (ageN ws (parse nW ws 0).1 i) ≤ 18446744073709551615 := by
  obtain ⟨_, _, _, _, h4, h5, h6⟩ := h.obj hi
  have := head_parts_ (len := (lenN (parse nW ws 0).1 i : Int)) (by omega) (by omega) h5 h6 (S i)
  exact ⟨this.2.2.2.2.1, this.2.2.2.2.2⟩

theorem perm_c1 {α : Type} (a b c d e : α) : [a, b, c, d, e].Perm [c, d, e, a, b] := by
  classical
  rw [List.perm_iff_count]
  intro x
  simp only [List.count_cons, List.count_nil]
  omega
theorem perm_c2 {α : Type} (a b c d e : α) : [a, b, c, d, e].Perm [c, e, d, a, b] := by
  classical
  rw [List.perm_iff_count]
  intro x
  simp only [List.count_cons, List.count_nil]
  omega
theorem perm_c3 {α : Type} (a b c d e : α) : [a, b, c, d, e].Perm [d, e, c, a, b] := by
  classical
  rw [List.perm_iff_count]
  intro x
  simp only [List.count_cons, List.count_nil]
  omega
set_option maxRecDepth 100000 in
set_option maxHeartbeats 16000000 in
theorem cleared_any (w : World) (AW AR : Option Addr) (nW cW nR cR : Nat) (ws rs : List Int) (hW : WsIn w AW nW cW ws) (hR : WsIn w AR nR cR rs) (hok : ArnOk nW ws) (h2 : nR ≤ 8) :
    Calls Try.prog 82 #[.agg #[.slice AW nW cW, .slice AR nR cR]] w fun e w' => ∃ A c A' c', e = .returned (.agg #[.slice A nW c, .slice A' nR c']) ∧
      Sep No w w' [rowI 24 1 A nW c (u64s (mkW ws (parse nW ws 0).1 (fun _ => false))), rowI 24 1 A' nR c' (u64s rs)] := by
  have h1 := hok.max
  have HSELF := hide hok.self
  have HOBJ := hide (fun i hi => hok.obj (i := i) hi)
  have HHEAD := hide (fun i hi S => hok.head (i := i) hi S)
  have HSET := hide (fun i hi S b => hok.set (i := i) hi S b)
  have hS0 := ((Sep.nil No w).blkAt 55 #[.slice AW nW cW, .slice AR nR cR] rfl).blkAt 55 #[.slice none 0 0, .slice none 0 0] (g := w.heap.size + 1) (by simp)
  obtain ⟨a1, a2, a3, a4⟩ := hS0.rules 0 (g := w.heap.size) (t := 55) rfl
  have a5 := a1 0
  have a6 := a1 1
  have HS0 := hide hS0
  have C1 := hide (fun w' (hb : Below w.heap.size w w') => clone_any w' AW nW cW ws hW.nil (by omega) (hW.below hb).rd)
  have C2 := hide (fun w' (hb : Below w.heap.size w w') => clone_any w' AR nR cR rs hR.nil (by omega) (hR.below hb).rd)
  have C3 := hide (fun w' (hb : Below w.heap.size w w') => begins_any w' AW AR nW cW nR cR ws (hW.below hb) h1 hok.ok)
  have HPW := hide (strk_end ws (parse nW ws 0).1)
  obtain ⟨pre, hpre⟩ : ∃ pre, (parse nW ws 0).1 = pre := ⟨_, rfl⟩
  rw [hpre] at HSELF HOBJ HHEAD HSET C3 HPW ⊢
  clear hS0 hpre hok a1 a4
  go_enter Try.func82, Try.ntmps82
  go_wp2_with fail
  go_cut [3] from 6 (fun s3 wc => ∃ (B c1 c2 : Nat) (A1 A2 : Option Addr), s3 = .pointer (some ⟨B, 0, none⟩) ∧ Sep No w wc [rowI 24 1 A1 nW c1 (u64s ws), rowI 24 1 A2 nR c2 (u64s rs), blkI B 55 #[.slice A1 nW c1, .slice A2 nR c2], blkI w.heap.size 55 #[.slice AW nW cW, .slice AR nR cR], blkI (w.heap.size + 1) 55 #[.slice none 0 0, .slice none 0 0]])
  case first =>
    have M1 : True := trivial
    have M2 : True := trivial
    go_region_law (first
      | (have M := M1
         clear M M1
         try go_simp
         go_at_call 73
         first
           | with_reducible refine (C1.out _ HS0.out.drew.below_).mono ?_
             rintro e w1 ⟨A1, c1, rfl, hP1⟩
             have hS1 := HS0.out.drew.snocNew hP1.below_ _ (hP1.get 0 rfl) (fun g hg => (hP1.lo 0 rfl g hg).resolve_left (fun h => h))
             obtain ⟨x1, x2, x3, x4⟩ := hS1.rules 0 (g := w.heap.size) (t := 55) rfl
             (have x5 := x1 0)
             (have x6 := x1 1)
             clear x1 x4 hP1
           | have hS0b := (HS0.out.blkAt 55 #[.slice none 0 0, .slice none 0 0] (g := w.heap.size + 1 + 1) (by simp)).drew
             with_reducible refine (C1.out _ hS0b.below_).mono ?_
             rintro e w1 ⟨A1, c1, rfl, hP1⟩
             have hS1 := hS0b.snocNew hP1.below_ _ (hP1.get 0 rfl) (fun g hg => (hP1.lo 0 rfl g hg).resolve_left (fun h => h))
             obtain ⟨x1, x2, x3, x4⟩ := hS1.rules 0 (g := w.heap.size) (t := 55) rfl
             (have x5 := x1 0)
             (have x6 := x1 1)
             clear x1 x4 hP1)
      | (have M := M2
         clear M M2
         try go_simp
         go_at_call 73
         first
           | with_reducible refine (C2.out _ hS1.below_).mono ?_
             rintro e w2 ⟨A2, c2, rfl, hP2⟩
             have hS2 := hS1.snocNew hP2.below_ _ (hP2.get 0 rfl) (fun g hg => (hP2.lo 0 rfl g hg).resolve_left (fun h => h))
             (try (obtain ⟨y1, y2, y3, y4⟩ := hS2.rules 2 (g := w.heap.size + 1 + 1) (t := 55) rfl
                   (have y5 := y1 0)
                   (have y6 := y1 1)
                   clear y1 y4))
             clear hP2
           | have hS1b := hS1.blkAt 55 #[.slice none 0 0, .slice none 0 0] rfl
             with_reducible refine (C2.out _ hS1b.below_).mono ?_
             rintro e w2 ⟨A2, c2, rfl, hP2⟩
             have hS2 := hS1b.snocNew hP2.below_ _ (hP2.get 0 rfl) (fun g hg => (hP2.lo 0 rfl g hg).resolve_left (fun h => h))
             obtain ⟨y1, y2, y3, y4⟩ := hS2.rules 3 (g := w1.heap.size) (t := 55) rfl
             (have y5 := y1 0)
             (have y6 := y1 1)
             clear hP2 y1 y4))
    all_goals
      go_wp2_with fail
      go_meet
      case rel =>
        first
          | exact ⟨_, _, _, _, _, rfl, (hS2.blkAt 55 #[.slice A1 nW c1, .slice A2 nR c2] rfl).perm (perm_c1 _ _ _ _ _)⟩
          | exact ⟨_, _, _, _, _, rfl, ((hS2.set_ 3 (g := w1.heap.size) (t := 55) rfl 0 (.slice A1 nW c1)).set_ 3 (g := w1.heap.size) (t := 55) rfl 1 (.slice A2 nR c2)).perm (perm_c2 _ _ _ _ _)⟩
          | exact ⟨_, _, _, _, _, rfl, ((hS2.set_ 2 (g := w.heap.size + 1 + 1) (t := 55) rfl 0 (.slice A1 nW c1)).set_ 2 (g := w.heap.size + 1 + 1) (t := 55) rfl 1 (.slice A2 nR c2)).perm (perm_c3 _ _ _ _ _)⟩
          | exact ⟨_, _, _, _, _, rfl, ((hS2.blkAt 55 #[.slice A1 nW c1, .slice A2 nR c2] rfl).perm (perm_c1 _ _ _ _ _)).drew⟩
          | exact ⟨_, _, _, _, _, rfl, (((hS2.set_ 3 (g := w1.heap.size) (t := 55) rfl 0 (.slice A1 nW c1)).set_ 3 (g := w1.heap.size) (t := 55) rfl 1 (.slice A2 nR c2)).perm (perm_c2 _ _ _ _ _)).drew⟩
          | trace_state
  case rest =>
    obtain ⟨B, c1, c2, A1, A2, rfl, hS⟩ := hcut
    obtain ⟨x1, x2, x3, x4⟩ := hS.rules 3 (g := w.heap.size) (t := 55) rfl
    have x5 := x1 0
    have x6 := x1 1
    have C := hide (C3.out wc hS.below_)
    have HS := hide hS
    clear x1 x4 C1 C2 C3 HS0 hS
    go_wp2_with fail
    refine C.out.mono ?_
    rintro e w5 ⟨As, ns, cs, rfl, hns, hP⟩
    have hnl : ns = pre.length := by have := (hP.rd_ 0 rfl).1; simp [placesOf] at this; omega
    subst hnl
    have hS5 : Sep No w w5 [rowI 24 1 A1 nW c1 (u64s (mkW ws pre (strk ws pre 0))), rowI 24 1 A2 nR c2 (u64s rs), blkI B 55 #[.slice A1 nW c1, .slice A2 nR c2], blkI w.heap.size 55 #[.slice AW nW cW, .slice AR nR cR], blkI (w.heap.size + 1) 55 #[.slice none 0 0, .slice none 0 0], rowI 3 1 As pre.length cs (ints (placesOf pre))] := by
      rw [strk_zero, HSELF.out]
      exact HS.out.snocNew hP.below_ _ (hP.get 0 rfl) (fun g hg => (hP.lo 0 rfl g hg).resolve_left (fun h => h))
    have HS5 := hide hS5
    clear x2 x3 x5 x6 C HS hP hS5
    go_wp2_with fail
    go_loopw [16] (fun i wr => ∃ k : Nat, k ≤ pre.length ∧ i = .int .i64 k ∧ Sep No w wr [rowI 24 1 A1 nW c1 (u64s (mkW ws pre (strk ws pre k))), rowI 24 1 A2 nR c2 (u64s rs), blkI B 55 #[.slice A1 nW c1, .slice A2 nR c2], blkI w.heap.size 55 #[.slice AW nW cW, .slice AR nR cR], blkI (w.heap.size + 1) 55 #[.slice none 0 0, .slice none 0 0], rowI 3 1 As pre.length cs (ints (placesOf pre))]) (fun i _ => pre.length - (intOf i).toNat)
    case atStart => exact ⟨0, by omega, rfl, HS5.out⟩
    case round =>
      clear HS5
      obtain ⟨k, hk, rfl, hS⟩ := hrel
      obtain ⟨x1, x2, x3, x4⟩ := hS.rules 2 (g := B) (t := 55) rfl
      have x5 := x1 0
      have x6 := x1 1
      by_cases hlt : k < pre.length
      · obtain ⟨ad, hA, _, had, hc⟩ := (hS.rd_ 5 rfl).at_ hlt
        have e0 := hc (.int .i64 (plcN pre k)) (by rw [← plc_get hlt]; simp [placesOf, List.getElem?_eq_getElem hlt])
        obtain ⟨o1, o2, o3, o4, o5, o6, o7⟩ := HOBJ.out k hlt
        have hrow : wr.ownsRow 0 24 1 (.slice A1 nW c1) nW (u64s (mkW ws pre (strk ws pre k))) := hS.get 0 rfl
        obtain ⟨g, hA1⟩ := own_addr hrow (by omega)
        subst hA1
        have MB := (mark_bits (len := (lenN pre k : Int)) (a := ageN ws pre k) (by omega) (by omega) o6 o7 (strk ws pre k k)).2.1
        have f0 := (hrow.cellAt (plcN pre k) (by omega)).trans ((u64s_get _ _).trans (congrArg _ (HHEAD.out k hlt (strk ws pre k))))
        have f1 := hrow.frozenAt (plcN pre k)
        have hS6 := (hS.store 0 (g := g) rfl (plcN pre k) (.int .u64 (headW (lenN pre k : Int) false (ageN ws pre k)))).drew
        rw [u64s_set, HSET.out k hlt, strk_succ] at hS6
        obtain ⟨at_, hat⟩ : ∃ at_, plcN pre k = at_ := ⟨_, rfl⟩
        obtain ⟨hw, hhw⟩ : ∃ hw, headW (lenN pre k : Int) (strk ws pre k k) (ageN ws pre k) = hw := ⟨_, rfl⟩
        obtain ⟨hv, hhv⟩ : ∃ hv, headW (lenN pre k : Int) false (ageN ws pre k) = hv := ⟨_, rfl⟩
        rw [hat] at e0 f0 f1 hS6 o1
        rw [hhw] at f0 MB
        rw [hhv] at MB hS6
        have CS := hide (fun w' => set_off w' hw hv MB)
        have HS6 := hide hS6
        simp only [Option.map_some] at f0
        subst hA
        clear hS hS6 hc hrow MB x1 x4 x6 o2 o3 o4 o5 o6 o7 hat hhw hhv
        go_wp2_with fail
        go_region_law (first
          | (try go_simp
             go_at_call 111
             refine (CS.out _).mono ?_
             rintro e w1 ⟨rfl, rfl⟩))
        all_goals
          go_wp2_with fail
          go_roundw
          case rel => exact ⟨k + 1, by omega, by go_num, HS6.out⟩
          case measure => simp [intOf]; omega
      · obtain rfl : k = pre.length := by omega
        rw [HPW.out] at hS
        obtain ⟨z1, z2, z3, z4⟩ := hS.rules 4 (g := w.heap.size + 1) (t := 55) rfl
        have HS := hide hS
        clear x4 x1 hS
        go_wp2_with fail
        have hF := (HS.out.set_ 4 (g := w.heap.size + 1) (t := 55) rfl 0 (.slice A1 nW c1)).set_ 4 (g := w.heap.size + 1) (t := 55) rfl 1 (.slice A2 nR c2)
        refine bodyPost_ret (v := .agg #[.slice A1 nW c1, .slice A2 nR c2]) (by simp [results, Try.results82, go_sem, z1]) rfl ⟨_, _, _, _, rfl, hF.sub (by simp)⟩
end Go.Proofs.Ytpbafmdebflbpaa

namespace Go.Proofs.Ytpbafmdebflbpaa
open Go.RowKit

def refers (vs : List Val) (i : Int) : Bool := vs.any fun v => v.1 && v.2 == i
def d0 (gs : List (List Val)) (vs : List Val) : List Int := (List.range gs.length).map fun (i : Nat) => if refers vs (i : Int) = true then 0 else -1
/-- One look from i to j, at a turn. -/
def dLook (gs : List (List Val)) (t i : Nat) (d : List Int) (j : Nat) : List Int := if d.getD j 0 < 0 ∧ refers (fieldsI gs (i : Int)) (j : Int) = true then d.set j ((t : Int) + 1) else d
def dFrom (gs : List (List Val)) (t : Nat) (d : List Int) (i : Nat) : List Int := if d.getD i 0 = (t : Int) then (List.range gs.length).foldl (dLook gs t i) d else d
def dTurn (gs : List (List Val)) (d : List Int) (t : Nat) : List Int := (List.range gs.length).foldl (dFrom gs t) d
def distR (gs : List (List Val)) (vs : List Val) : List Int := (List.range gs.length).foldl (dTurn gs) (d0 gs vs)
def reachR (gs : List (List Val)) (vs : List Val) : List Int := ((List.range gs.length).filter fun (i : Nat) => decide (0 ≤ (distR gs vs).getD i 0)).map fun (i : Nat) => (i : Int)

theorem range_snoc_fold {α : Type} (f : α → Nat → α) (a : α) (k : Nat) : (List.range (k + 1)).foldl f a = f ((List.range k).foldl f a) k := by rw [List.range_succ, List.foldl_append]; rfl
theorem dLook_len (gs : List (List Val)) (t i : Nat) (d : List Int) (j : Nat) : (dLook gs t i d j).length = d.length := by unfold dLook; split <;> simp
theorem dLookAll_len (gs : List (List Val)) (t i : Nat) (js : List Nat) (d : List Int) : (js.foldl (dLook gs t i) d).length = d.length := by
  induction js generalizing d with
  | nil => rfl
  | cons a js ih => rw [List.foldl_cons, ih, dLook_len]
theorem dFrom_len (gs : List (List Val)) (t : Nat) (d : List Int) (i : Nat) : (dFrom gs t d i).length = d.length := by unfold dFrom; split; exact dLookAll_len _ _ _ _ _; rfl
theorem dTurn_len (gs : List (List Val)) (d : List Int) (t : Nat) : (dTurn gs d t).length = d.length := by
  unfold dTurn
  generalize List.range gs.length = js
  induction js generalizing d with
  | nil => rfl
  | cons a js ih => rw [List.foldl_cons, ih, dFrom_len]
theorem dFroms_len (gs : List (List Val)) (t : Nat) (js : List Nat) (d : List Int) : (js.foldl (dFrom gs t) d).length = d.length := by
  induction js generalizing d with
  | nil => rfl
  | cons a js ih => rw [List.foldl_cons, ih, dFrom_len]
theorem dTurns_len (gs : List (List Val)) (js : List Nat) (d : List Int) : (js.foldl (dTurn gs) d).length = d.length := by
  induction js generalizing d with
  | nil => rfl
  | cons a js ih => rw [List.foldl_cons, ih, dTurn_len]
theorem d0_len (gs : List (List Val)) (vs : List Val) : (d0 gs vs).length = gs.length := by simp [d0]

/-- All numbers of a list in bounds. -/
def DBd (n : Nat) (d : List Int) : Prop := ∀ x ∈ d, -1 ≤ x ∧ x ≤ (n : Int)
theorem DBd.set {n : Nat} {d : List Int} (h : DBd n d) (j : Nat) {x : Int} (hx : -1 ≤ x ∧ x ≤ (n : Int)) : DBd n (d.set j x) := fun y hy => by
  rcases List.mem_or_eq_of_mem_set hy with h1 | h1
  · exact h y h1
  · subst h1; exact hx
theorem DBd.look {gs : List (List Val)} {n t i : Nat} {d : List Int} (h : DBd n d) (ht : t < n) (j : Nat) : DBd n (dLook gs t i d j) := by
  unfold dLook; split
  · exact h.set j (by omega)
  · exact h
theorem DBd.looks {gs : List (List Val)} {n t i : Nat} (js : List Nat) {d : List Int} (h : DBd n d) (ht : t < n) : DBd n (js.foldl (dLook gs t i) d) := by
  induction js generalizing d with
  | nil => exact h
  | cons a js ih => exact ih (h.look ht a)
theorem DBd.from_ {gs : List (List Val)} {n t : Nat} {d : List Int} (h : DBd n d) (ht : t < n) (i : Nat) : DBd n (dFrom gs t d i) := by
  unfold dFrom; split
  · exact h.looks _ ht
  · exact h
theorem DBd.froms {gs : List (List Val)} {n t : Nat} (js : List Nat) {d : List Int} (h : DBd n d) (ht : t < n) : DBd n (js.foldl (dFrom gs t) d) := by
  induction js generalizing d with
  | nil => exact h
  | cons a js ih => exact ih (h.from_ ht a)
theorem DBd.zero (gs : List (List Val)) (vs : List Val) (n : Nat) : DBd n (d0 gs vs) := fun x hx => by
  obtain ⟨i, _, rfl⟩ := List.mem_map.1 hx
  split <;> omega

theorem dMadeInts (n : Nat) : (madeCells (Value.cells (.int .i64 0)) (n * 1)).toList = ints (List.replicate n 0) := by
  rcases Nat.eq_zero_or_pos n with rfl | h
  · simp [madeCells, ints]
  · apply List.ext_getElem (by simp [madeCells, Value.cells, ints])
    intro i h1 h2
    simp [madeCells, Value.cells, ints, Nat.mod_one]
theorem dInt : (Try.prog.info? 3).map (fun i => (i.zero, i.size, i.bytes)) = some (some (.int .i64 0), 1, 8) := by kernel_rfl
theorem ints_set_ (l : List Int) (k : Nat) (x : Int) : (ints l).set k (.int .i64 x) = ints (l.set k x) := by unfold ints; rw [List.map_set]
theorem refers_snoc (vs : List Val) (v : Val) (i : Int) : refers (vs ++ [v]) i = (refers vs i || (v.1 && v.2 == i)) := by simp [refers]

set_option maxHeartbeats 1600000 in
theorem refers_any (w : World) (A : Option Addr) (n c : Nat) (vs : List Val) (i : Int) (hn : n ≤ 1000) (h : Rd w (fun _ => True) 2 A n (vals vs)) :
    Calls Try.prog 126 #[.slice A n c, .int .i64 i] w fun e w' => e = .returned (.bool (refers vs i)) ∧ Below w.heap.size w w' := by
  have HL := hide (show vs.length = n by have := h.1; rw [vals_length] at this; omega)
  go_enter Try.func126, Try.ntmps126
  go_wp2_with fail
  go_loopw [9] (fun s wr => ∃ k : Nat, k ≤ n ∧ s = .int .i64 k ∧ Hid (refers (vs.take k) i = false) ∧ Below w.heap.size w wr) (fun s _ => n - (intOf s).toNat)
  case atStart => exact ⟨0, by omega, rfl, by simp [Hid, refers], Below.refl _ _⟩
  case round =>
    obtain ⟨k, hk, rfl, HN, hB⟩ := hrel
    have hz := hB.size
    by_cases hlt : k < n
    · have hkl : k < vs.length := by rw [HL.out]; exact hlt
      obtain ⟨ad, hA, _, had, hc, hd⟩ := (h.below hB).atN hlt
      obtain ⟨v0, v1⟩ := vals_at vs k hkl
      have e0 := hc _ v0
      have e1 := hd 0 _ v1
      have HT := hide (List.take_succ_eq_append_getElem hkl)
      have HM := hide (List.getElem_mem hkl)
      obtain ⟨x, hx⟩ : ∃ x, vs[k] = x := ⟨_, rfl⟩
      rw [hx] at e0 e1 HT HM
      subst hA
      clear hc hd v0 v1 hx
      obtain ⟨b, m⟩ := x
      dsimp only at e0 e1
      cases b with
      | false =>
        have HX := hide (show refers (vs.take (k + 1)) i = false from by rw [HT.out, refers_snoc, HN.out]; rfl)
        go_wp2_with fail
        go_roundw
        case rel => exact ⟨k + 1, by omega, by go_num, HX, hB.alloc hz _⟩
        case measure => simp [intOf]; omega
      | true =>
        cases hq : (m == i) with
        | true =>
          have HR := hide (show refers vs i = true from List.any_eq_true.2 ⟨_, HM.out, hq⟩)
          go_wp2_with fail
          go_ret
          exact ⟨by rw [HR.out] <;> rfl, hB.alloc hz _⟩
        | false =>
          have HX := hide (show refers (vs.take (k + 1)) i = false from by rw [HT.out, refers_snoc, HN.out, hq]; rfl)
          go_wp2_with fail
          go_roundw
          case rel => exact ⟨k + 1, by omega, by go_num, HX, hB.alloc hz _⟩
          case measure => simp [intOf]; omega
    · have HR := hide (show refers vs i = false from by
        have h1 := HN.out
        rw [List.take_of_length_le (by rw [HL.out]; omega)] at h1
        exact h1)
      go_wp2_with fail
      go_ret
      exact ⟨by rw [HR.out] <;> rfl, hB⟩
end Go.Proofs.Ytpbafmdebflbpaa

namespace Go.Proofs.Ytpbafmdebflbpaa
open Go.RowKit

theorem take_set_ {d : List Int} {k : Nat} (x : Int) (h : k < d.length) : (d.set k x).take (k + 1) = d.take k ++ [x] := by
  rw [List.take_succ_eq_append_getElem (by simpa using h)]
  simp [List.take_set_of_le (Nat.le_refl k)]
theorem getD_get {d : List Int} {k : Nat} (h : k < d.length) : d.getD k 0 = d[k] := by rw [List.getD_eq_getElem?_getD, List.getElem?_eq_getElem h]; rfl
theorem dLook_keep {gs : List (List Val)} {t i : Nat} {d : List Int} (j : Nat) (h : d.getD i 0 = (t : Int)) : (dLook gs t i d j).getD i 0 = (t : Int) := by
  unfold dLook
  split
  · rename_i hc
    have hne : i ≠ j := by rintro rfl; omega
    rw [List.getD_eq_getElem?_getD, List.getElem?_set_ne (Ne.symm hne), ← List.getD_eq_getElem?_getD]
    exact h
  · exact h
theorem dLooks_keep {gs : List (List Val)} {t i : Nat} (js : List Nat) {d : List Int} (h : d.getD i 0 = (t : Int)) : (js.foldl (dLook gs t i) d).getD i 0 = (t : Int) := by
  induction js generalizing d with
  | nil => exact h
  | cons a js ih => exact ih (dLook_keep a h)
theorem cell_of_ints {w : World} {base e g n c : Nat} {d : List Int} (h : w.ownsRow base e 1 (.slice (some ⟨g, 0, none⟩) n c) n (ints d)) (k : Nat) (hk : k < d.length) : w.cell? ⟨g, k, none⟩ = some (.int .i64 d[k]) := by
  have hl : d.length = n := by have := h.1; simpa using this
  rw [h.cellAt k (by omega)]
  simp [ints, List.getElem?_eq_getElem hk]

set_option maxRecDepth 100000 in
set_option maxHeartbeats 16000000 in
theorem dist_any (w : World) (v : Value) (fss : List (List Val)) (roots : List Val) (h : GraphRd w (fun _ => True) v fss roots) (hn : fss.length ≤ 1000) (hr : roots.length ≤ 1000) (hf : ∀ fs ∈ fss, fs.length ≤ 1000) :
    Calls Try.prog 115 #[v] w fun e w' => ∃ A c, e = .returned (.slice A fss.length c) ∧ Sep No w w' [rowI 3 1 A fss.length c (ints (distR fss roots))] := by
  obtain ⟨AO, nO, cO, AR, nR, cR, obs, rfl, hO, h3, hR⟩ := h.ex
  have hRL : roots.length = nR := by have := hR.1; rw [vals_length] at this; omega
  have HOL := hide hO.len
  have hlen : fss.length = nO := by rw [← h3, List.length_map]; exact hO.len
  have HF := hide hf
  have H3 := hide h3
  have HLEN := hide hlen
  have hnR : nR ≤ 1000 := by omega
  rw [hlen] at hn ⊢
  have hS0 := (Sep.nil No w).blkAt 52 #[.slice AO nO cO, .slice AR nR cR] rfl
  obtain ⟨a1, a2, a3, a4⟩ := hS0.rules 0 (g := w.heap.size) (t := 52) rfl
  clear hf h3 hlen hr h hRL
  go_enter Try.func115, Try.ntmps115
  go_wp2_with (first
    | (at_make
       refine wpList_make rfl (.tmp 10) (.tmp 10) 40 rfl hS0 Try.underlying40 dInt (by omega) .i64 .i64 nO rfl rfl (by omega) ?_
       intro w1 hS1 hb1))
  have hS2 : Sep No w w1 [blkI w.heap.size 52 #[.slice AO nO cO, .slice AR nR cR], rowI 3 1 (some ⟨w.heap.size + 1, 0, none⟩) nO nO (ints (List.replicate nO 0))] := by
    rw [dMadeInts] at hS1
    rw [show (w.alloc (.cells #[.slice AO nO cO, .slice AR nR cR] 52)).heap.size = w.heap.size + 1 from by simp] at hS1
    exact hS1
  have HS2 := hide hS2
  clear a1 a2 a3 a4 hS0 hS1 hb1 hS2
  go_loopw [4] (fun s wr => ∃ (k : Nat) (d : List Int), k ≤ nO ∧ s = .int .i64 k ∧ Hid (d.length = nO) ∧ Hid (d.take k = (d0 fss roots).take k) ∧ Sep No w wr [blkI w.heap.size 52 #[.slice AO nO cO, .slice AR nR cR], rowI 3 1 (some ⟨w.heap.size + 1, 0, none⟩) nO nO (ints d)]) (fun s _ => nO - (intOf s).toNat)
  case atStart => exact ⟨0, _, by omega, rfl, by simp [Hid], by simp [Hid], HS2.out⟩
  case round =>
    clear HS2
    obtain ⟨k, d, hk, rfl, HDL, HDT, hS⟩ := hrel
    by_cases hlt : k < nO
    · have hkl : k < d.length := by rw [HDL.out]; exact hlt
      have hrow : wr.ownsRow 0 3 1 (.slice (some ⟨w.heap.size + 1, 0, none⟩) nO nO) nO (ints d) := hS.get 1 rfl
      have f1 := cell_of_ints hrow k hkl
      obtain ⟨y1, hy1⟩ : ∃ y, d[k] = y := ⟨_, rfl⟩
      rw [hy1] at f1
      clear hy1
      have f2 := hrow.frozenAt k
      have hS3 := hS.store 1 rfl k (.int .i64 (-1))
      rw [ints_set_] at hS3
      obtain ⟨g1, g2, g3, g4⟩ := hS3.rules 0 (g := w.heap.size) (t := 52) rfl
      have HT0 := hide (show (d0 fss roots).take (k + 1) = (d0 fss roots).take k ++ [if refers roots (k : Int) = true then 0 else -1] from by
        rw [List.take_succ_eq_append_getElem (by rw [d0_len, HLEN.out]; exact hlt)]
        simp [d0])
      have C := refers_any (wr.setCell ⟨w.heap.size + 1, k, none⟩ (.int .i64 (-1))) AR nR cR roots (k : Int) hnR (hR.below hS3.below_)
      have HS3 := hide hS3
      have hSg := hS.hi 1 rfl (w.heap.size + 1) rfl
      have HTS := hide (fun x => take_set_ (d := d) (k := k) x hkl)
      have HKL := hide hkl
      cases hq : refers roots (k : Int) with
      | true =>
        rw [hq] at C HT0
        have HC := hide C
        clear hrow hS3 hS C hkl hq
        go_wp2_with fail
        refine HC.out.mono ?_
        rintro e w4 ⟨rfl, hb4⟩
        have hS4 : Sep No w w4 [blkI w.heap.size 52 #[.slice AO nO cO, .slice AR nR cR], rowI 3 1 (some ⟨w.heap.size + 1, 0, none⟩) nO nO (ints (d.set k (-1)))] := HS3.out.below hb4
        have hrow4 : w4.ownsRow 0 3 1 (.slice (some ⟨w.heap.size + 1, 0, none⟩) nO nO) nO (ints (d.set k (-1))) := hS4.get 1 rfl
        have f3 := cell_of_ints hrow4 k (by rw [List.length_set]; exact HKL.out)
        have f4 := hrow4.frozenAt k
        have hS5 := hS4.store 1 rfl k (.int .i64 0)
        rw [ints_set_, List.set_set] at hS5
        have HS5 := hide hS5
        have hSg4 := hS4.hi 1 rfl (w.heap.size + 1) rfl
        clear hS4 hrow4 hS5 HC HS3 f1 f2 g1 g2 g3 g4 hb4
        go_wp2_with fail
        go_roundw
        case rel => exact ⟨k + 1, d.set k 0, by omega, by go_num, by rw [List.length_set]; exact HDL, by
          show _ = _
          rw [HTS.out, HDT.out, HT0.out]; rfl, HS5.out⟩
        case measure => simp [intOf]; omega
      | false =>
        rw [hq] at C HT0
        have HC := hide C
        clear hrow hS3 hS C hkl hq
        go_wp2_with fail
        refine HC.out.mono ?_
        rintro e w4 ⟨rfl, hb4⟩
        have HS5 := hide (HS3.out.below hb4)
        clear HC HS3 f1 f2 g1 g2 g3 g4 hb4
        go_wp2_with fail
        go_roundw
        case rel => exact ⟨k + 1, d.set k (-1), by omega, by go_num, by rw [List.length_set]; exact HDL, by
          show _ = _
          rw [HTS.out, HDT.out, HT0.out]; rfl, HS5.out⟩
        case measure => simp [intOf]; omega
    · obtain rfl : k = nO := by omega
      have hd : d = d0 fss roots := by
        have h1 := HDT.out
        rw [List.take_of_length_le (by rw [HDL.out]; omega), List.take_of_length_le (by rw [d0_len, HLEN.out]; omega)] at h1
        exact h1
      subst hd
      have HS := hide hS
      clear hS HDT HDL hlt
      go_wp2_with fail
      go_loopw [5] (fun s w2 => ∃ (t : Nat) (d : List Int), t ≤ k ∧ s = .int .i64 t ∧ Hid (d = (List.range t).foldl (dTurn fss) (d0 fss roots)) ∧ Sep No w w2 [blkI w.heap.size 52 #[.slice AO k cO, .slice AR nR cR], rowI 3 1 (some ⟨w.heap.size + 1, 0, none⟩) k k (ints d)]) (fun s _ => k - (intOf s).toNat)
      case atStart => exact ⟨0, _, by omega, rfl, rfl, HS.out⟩
      case round =>
        clear HS
        obtain ⟨t, dT, ht, rfl, HDT, hS⟩ := hrel
        have HDTL := hide (show dT.length = k from by rw [HDT.out, dTurns_len, d0_len, HLEN.out])
        by_cases hlt : t < k
        · have HS := hide hS
          clear hS
          go_wp2_with fail
          go_loopw [6] (fun s w3 => ∃ (i : Nat) (d : List Int), i ≤ k ∧ s = .int .i64 i ∧ Hid (d = (List.range i).foldl (dFrom fss t) dT) ∧ Sep No w w3 [blkI w.heap.size 52 #[.slice AO k cO, .slice AR nR cR], rowI 3 1 (some ⟨w.heap.size + 1, 0, none⟩) k k (ints d)]) (fun s _ => k - (intOf s).toNat)
          case atStart => exact ⟨0, dT, by omega, rfl, rfl, HS.out⟩
          case round =>
            clear HS
            obtain ⟨i, dF, hi, rfl, HDF, hS⟩ := hrel
            have HDFL := hide (show dF.length = k from by rw [HDF.out, dFroms_len]; exact HDTL.out)
            by_cases hli : i < k
            · have hil : i < obs.length := by rw [HOL.out]; exact hli
              have hEach := hO.each _ (List.getElem_mem hil)
              have hFl := hO.flen (List.getElem_mem hil)
              obtain ⟨adO, hAO, _, _, hcO⟩ := hO.row.at_ hli
              have hfi : fieldsI fss (i : Int) = obs[i].fields := by
                unfold fieldsI
                rw [← H3.out, List.getD_eq_getElem?_getD]
                simp [List.getElem?_eq_getElem hil]
              have hfb := HF.out _ (show obs[i].fields ∈ fss by rw [← H3.out]; exact List.mem_map.2 ⟨_, List.getElem_mem hil, rfl⟩)
              have hRow := hO.row
              have hval : (obs.map Ob.val)[i]? = some obs[i].val := by simp [List.getElem?_eq_getElem hil]
              obtain ⟨o, ho⟩ : ∃ o, obs[i] = o := ⟨_, rfl⟩
              rw [ho] at hEach hFl hfi hfb hval
              rw [hFl] at hfb
              unfold Ob.val at hval
              have HFI := hide hfi
              have HVAL := hide hval
              have HROW := hide hRow
              have HEACH := hide hEach
              subst hAO
              clear hFl hfi hval hRow hEach ho hcO
              have HS := hide hS
              clear hS
              go_wp2_with fail
              go_loopw [7] (fun s w4 => ∃ (j : Nat) (d : List Int), j ≤ k ∧ s = .int .i64 j ∧ Hid (d = (List.range j).foldl (dLook fss t i) dF) ∧ Hid (dF.getD i 0 ≠ (t : Int) → j = 0) ∧ Sep No w w4 [blkI w.heap.size 52 #[.slice (some adO) k cO, .slice AR nR cR], rowI 3 1 (some ⟨w.heap.size + 1, 0, none⟩) k k (ints d)]) (fun s _ => k - (intOf s).toNat)
              case atStart => exact ⟨0, dF, by omega, rfl, rfl, fun _ => rfl, HS.out⟩
              case round =>
                clear HS
                obtain ⟨j, d, hj, rfl, HD, HJ, hS⟩ := hrel
                have hdl : d.length = k := by rw [HD.out, dLookAll_len]; exact HDFL.out
                have HDL := hide hdl
                have hrow : wr.ownsRow 0 3 1 (.slice (some ⟨w.heap.size + 1, 0, none⟩) k k) k (ints d) := hS.get 1 rfl
                have fi1 := cell_of_ints hrow i (by omega)
                have hgdi := getD_get (d := d) (k := i) (by omega)
                by_cases hA : dF.getD i 0 = (t : Int)
                · have hdi : d.getD i 0 = (t : Int) := by rw [HD.out]; exact dLooks_keep _ hA
                  rw [← hgdi, hdi] at fi1
                  have HAA := hide hA
                  clear hgdi hdi hA
                  by_cases hlj : j < k
                  · have fj1 := cell_of_ints hrow j (by omega)
                    have fj2 := hrow.frozenAt j
                    have hgdj := getD_get (d := d) (k := j) (by omega)
                    have hSg := hS.hi 1 rfl (w.heap.size + 1) rfl
                    have HST := hide (show (List.range (j + 1)).foldl (dLook fss t i) dF = dLook fss t i d j from by rw [range_snoc_fold, ← HD.out])
                    obtain ⟨y, hy⟩ : ∃ y, d[j]'(by omega) = y := ⟨_, rfl⟩
                    rw [hy] at fj1 hgdj
                    by_cases hneg : y < 0
                    · have k1 : decide (y < 0) = true := by simp [hneg]
                      obtain ⟨g1, g2, g3, g4⟩ := hS.rules 0 (g := w.heap.size) (t := 52) rfl
                      obtain ⟨adO', hAO', _, had, hcO'⟩ := (HROW.out.below hS.below_).at_ hli
                      obtain rfl : adO = adO' := Option.some.inj hAO'
                      have e0 := hcO' _ HVAL.out
                      have C := refers_any wr o.A o.n o.c o.fields (j : Int) hfb (HEACH.out.below hS.below_)
                      have HS := hide hS
                      cases hq : refers o.fields (j : Int) with
                      | true =>
                        have HX := hide (show dLook fss t i d j = d.set j ((t : Int) + 1) from by unfold dLook; rw [HFI.out, hgdj, if_pos ⟨hneg, hq⟩])
                        rw [hq] at C
                        have HC := hide C
                        clear hS hrow hdl hgdj hy hcO' hAO' hq C hneg
                        go_wp2_with fail
                        refine HC.out.mono ?_
                        rintro e w5 ⟨rfl, hb5⟩
                        have hS5 := HS.out.below hb5
                        have hrow5 : w5.ownsRow 0 3 1 (.slice (some ⟨w.heap.size + 1, 0, none⟩) k k) k (ints d) := hS5.get 1 rfl
                        have f3 := hrow5.cellAt j (by omega)
                        rw [show (ints d)[j]? = some (.int .i64 (d[j]'(by rw [HDL.out]; exact hlj))) from by simp [ints, List.getElem?_eq_getElem (show j < d.length by rw [HDL.out]; exact hlj)]] at f3
                        have f4 := hrow5.frozenAt j
                        have hS6 := hS5.store 1 rfl j (.int .i64 ((t : Int) + 1))
                        rw [ints_set_] at hS6
                        have HS6 := hide hS6
                        have hSg5 := hS5.hi 1 rfl (w.heap.size + 1) rfl
                        clear hS5 hrow5 hS6 HC HS hb5 g1 g2 g3 g4 e0 fi1 fj1 fj2 had
                        go_wp2_with fail
                        go_roundw
                        case rel => exact ⟨j + 1, d.set j ((t : Int) + 1), by omega, by go_num, by rw [HST.out, HX.out]; rfl, fun h => absurd HAA.out h, HS6.out⟩
                        case measure => simp [intOf]; omega
                      | false =>
                        have HX := hide (show dLook fss t i d j = d from by unfold dLook; rw [HFI.out, if_neg (by rw [hq]; simp)])
                        rw [hq] at C
                        have HC := hide C
                        clear hS hrow hdl hgdj hy hcO' hAO' hq C hneg
                        go_wp2_with fail
                        refine HC.out.mono ?_
                        rintro e w5 ⟨rfl, hb5⟩
                        have HS6 := hide (HS.out.below hb5)
                        clear HC HS hb5 g1 g2 g3 g4 e0 fi1 fj1 fj2 had
                        go_wp2_with fail
                        go_roundw
                        case rel => exact ⟨j + 1, d, by omega, by go_num, by rw [HST.out, HX.out]; rfl, fun h => absurd HAA.out h, HS6.out⟩
                        case measure => simp [intOf]; omega
                    · have k1 : decide (y < 0) = false := by simp only [hneg, decide_false]
                      have HX := hide (show dLook fss t i d j = d from by unfold dLook; rw [if_neg (by rw [hgdj]; exact fun h => hneg h.1)])
                      have HS := hide hS
                      clear hS hrow hdl hgdj hy hneg
                      go_wp2_with fail
                      go_roundw
                      case rel => exact ⟨j + 1, d, by omega, by go_num, by rw [HST.out, HX.out]; rfl, fun h => absurd HAA.out h, HS.out⟩
                      case measure => simp [intOf]; omega
                  · obtain rfl : j = k := by omega
                    have HX := hide (show (List.range (i + 1)).foldl (dFrom fss t) dT = d from by
                      rw [range_snoc_fold, ← HDF.out, HD.out]
                      unfold dFrom
                      rw [if_pos HAA.out, HLEN.out])
                    have HS := hide hS
                    clear hS hrow hdl
                    go_wp2_with fail
                    go_roundw
                    case rel => exact ⟨i + 1, d, by omega, by go_num, by rw [HX.out]; rfl, HS.out⟩
                    case measure => simp [intOf]; omega
                · obtain rfl : j = 0 := HJ.out hA
                  have hdd : d = dF := by rw [HD.out]; rfl
                  subst hdd
                  have HX := hide (show (List.range (i + 1)).foldl (dFrom fss t) dT = d from by
                    rw [range_snoc_fold, ← HDF.out]
                    unfold dFrom
                    rw [if_neg hA])
                  rw [hgdi] at hA
                  obtain ⟨y, hy⟩ : ∃ y, d[i]'(by omega) = y := ⟨_, rfl⟩
                  rw [hy] at fi1 hA
                  have k1 : (y == (t : Int)) = false := by simp [hA]
                  have HS := hide hS
                  clear hS hrow hdl hgdi hA hy
                  go_wp2_with fail
                  go_roundw
                  case rel => exact ⟨i + 1, d, by omega, by go_num, by rw [HX.out]; rfl, HS.out⟩
                  case measure => simp [intOf]; omega
            · obtain rfl : i = k := by omega
              have HX := hide (show (List.range (t + 1)).foldl (dTurn fss) (d0 fss roots) = dF from by
                rw [range_snoc_fold, ← HDT.out, HDF.out]
                unfold dTurn
                rw [HLEN.out])
              have HS := hide hS
              clear hS
              go_wp2_with fail
              go_roundw
              case rel => exact ⟨t + 1, dF, by omega, by go_num, by rw [HX.out]; rfl, HS.out⟩
              case measure => simp [intOf]; omega
        · obtain rfl : t = k := by omega
          have HX := hide (show distR fss roots = dT from by unfold distR; rw [HLEN.out]; exact HDT.out.symm)
          have HS := hide hS
          clear hS
          go_wp2_with fail
          go_ret
          first
            | exact ⟨_, _, rfl, by rw [HX.out]; exact HS.out.sub (by simp)⟩
            | exact ⟨some ⟨w.heap.size + 1, 0, none⟩, t, rfl, by rw [HX.out]; exact HS.out.sub (by simp)⟩
end Go.Proofs.Ytpbafmdebflbpaa
