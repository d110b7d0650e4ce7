/- slices.Repeat of one word (true or false), at most twenty-four times. A memory with colours: all white ones go. slices.Clone of a row of values. A memory without end, made from a graph's objects. A memory with colours: from its parts; what the methods do, as the plain deeds say. A memory with colours: work, sweep and what a machine does, as the plain deeds say. A memory with colours: small words for what is new. The reference's Ideal: a script on its memory. A memory with young and old objects: words for how a script begins and ends. -/
import Derived.Test.YtjphckfbbiehdaaSGenPlays32
import Derived.Test.YtjphckfbbiehdaaSGenPlays25
import Derived.Test.YtjphckfbbiehdaaSGenPlays13
import Derived.Test.YtjphckfbbiehdaaSGenPlays5
import Derived.Test.YtjphckfbbiehdaaSGenPlays31
import Derived.Test.YtjphckfbbiehdaaSGenPlays20
import Derived.Test.YtjphckfbbiehdaaSGenPlays21
import Derived.Test.YtjphckfbbiehdaaSGenPlays30
set_option linter.unusedSimpArgs false
set_option linter.unusedVariables false
namespace Go.Proofs.Ytjphckfbbiehdaa
open Go.RowKit
theorem rzBo : (Try.prog.info? 4).map (fun i => (i.zero, i.size, i.bytes)) = some (some (.bool false), 1, 1) := by kernel_rfl
theorem rzBo1 : (Try.prog.info? 4).map (·.size) = some 1 := by kernel_rfl
theorem rmadeBo (n : Nat) : (madeCells (Value.cells (.bool false)) (n * 1)).toList = bools (List.replicate n false) := by
  apply List.ext_getElem
  · simp [madeCells, bools]
  · intro i h1 h2
    simp [madeCells, Value.cells, bools, Nat.mod_one]
def rrowB (v0 : Bool) (N i : Nat) : List Value := bools (List.replicate i v0 ++ List.replicate (N - i) false)
theorem rrowB_length (v0 : Bool) (N i : Nat) (h : i ≤ N) : (rrowB v0 N i).length = N := by
  simp [rrowB, bools]; omega
theorem rrowB_at (v0 : Bool) (N i j m : Nat) (hm : m ≤ i) (v : Value) (hv : (bools (List.replicate m v0))[j]? = some v) : (rrowB v0 N i)[j]? = some v := by
  have hj : j < m := by
    have := (List.getElem?_eq_some_iff.1 hv).1
    simpa [bools] using this
  rw [← hv]
  have hj2 : j < i := by omega
  simp [rrowB, bools, List.getElem?_append, hj, hj2]
theorem rrowB_next (v0 : Bool) (N i m : Nat) (h : i + m ≤ N) : (rrowB v0 N i).toArray.toList.take i ++ (bools (List.replicate m v0) ++ (rrowB v0 N i).toArray.toList.drop (i + m)) = rrowB v0 N (i + m) := by
  obtain ⟨r, rfl⟩ : ∃ r, N = i + m + r := ⟨N - (i + m), by omega⟩
  have e1 : i + m + r - i = m + r := by omega
  have e2 : i + m + r - (i + m) = r := by omega
  unfold rrowB bools
  rw [e1, e2, List.map_append, List.map_append, List.map_replicate, List.map_replicate, List.map_replicate, List.map_replicate, List.map_replicate]
  simp [List.drop_append]
  rw [← List.append_assoc, List.replicate_append_replicate]
set_option maxHeartbeats 1600000 in
set_option maxRecDepth 100000 in
theorem repB_pos (w : World) (v0 : Bool) (N g0 : Nat) (h1 : 1 ≤ N) (h4 : N ≤ 24) (h : Blk w g0 4 #[.bool v0]) :
    Calls Try.prog 86 #[.slice (some ⟨g0, 0, none⟩) 1 1, .int .i64 N] w fun e w' => ∃ A c, e = .returned (.slice A N c) ∧ Sep No w w' [rowI 4 1 A N c (bools (List.replicate N v0))] := by
  have C := hide (rmul_any w N h4)
  go_enter Try.func86, Try.ntmps86
  go_wp2_with fail
  refine C.out.mono ?_
  rintro e w0 ⟨rfl, rfl⟩
  have hN : decide ((9223372036854775807 : Int) < N) = false := by simp; omega
  go_wp2_with (first
    | (refine wpList_make rfl (.tmp 29) (.tmp 29) 63 rfl (Sep.nil No w0) Try.underlying63 rzBo (by omega) .i64 .i64 N rfl rfl (by omega) ?_
       intro w1 hS1 hb1
       rw [rmadeBo] at hS1
       (have hB1 : Blk w1 w0.heap.size 4 (bools (List.replicate N false)).toArray := rblk_of_row (base := 0) (n := N) (hS1.get 0 rfl))
       have hG1 := h.below_ hb1)
    | (refine wpList_copy_splice rfl (.tmp 31) (.tmp 32) 63 63 rfl 4 Try.underlying63 rzBo1 (some ⟨w0.heap.size, 0, none⟩) (some ⟨g0, 0, none⟩) N N 1 1 rfl rfl w0.heap.size 0 (bools (List.replicate N false)) 4 hB1 [.bool v0] (by simp [Nat.min_eq_left h1]) (fun _ => ⟨rfl, _, rfl, fun j v hv => by
          rcases j with _ | j
          · simp at hv; subst hv; rw [raddr0, hG1.cell]; rfl
          · simp at hv⟩) (by simp [bools]; omega) (by simp [Value.oneCell']) w0.heap.size w0 hb1 (Nat.le_refl _) ?_
       intro w2 hg2 hb2))
  have hB2 : Blk w2 w0.heap.size 4 (rrowB v0 N 1).toArray := by
    have e : splice (bools (List.replicate N false)) 0 [.bool v0] = rrowB v0 N 1 := by
      obtain ⟨m, rfl⟩ : ∃ m, N = m + 1 := ⟨N - 1, by omega⟩
      simp [splice, rrowB, bools, List.replicate_succ]
    rw [← e]; exact hg2.out
  clear hg2 hG1 hB1 hb1 hS1 C
  go_loopw [8] (fun v wr => ∃ i : Nat, 1 ≤ i ∧ i ≤ N ∧ v = .int .i64 i ∧ Blk wr w0.heap.size 4 (rrowB v0 N i).toArray ∧ Below w0.heap.size w0 wr) (fun v _ => N - (intOf v).toNat)
  case atStart => exact ⟨1, by omega, by omega, rfl, hB2, hb2⟩
  case round =>
    obtain ⟨i, hi1, hi2, rfl, hB, hb⟩ := hrel
    clear hB2 hb2
    by_cases hlt : i < N
    · obtain ⟨m, hm⟩ : ∃ m, m = Nat.min i (N - i) := ⟨_, rfl⟩
      have hm1 : 1 ≤ m := by rw [hm]; exact Nat.le_min.2 ⟨hi1, by omega⟩
      have hm2 : m ≤ i := by rw [hm]; exact Nat.min_le_left _ _
      have hm3 : m ≤ N - i := by rw [hm]; exact Nat.min_le_right _ _
      have hat : ∀ j v, (bools (List.replicate m v0))[j]? = some v → wr.drew.cell? ((⟨w0.heap.size, 0, none⟩ : Addr).add j) = some v := by
        intro j v hv
        rw [raddr0, hB.drew.cell]
        simpa using rrowB_at v0 N i j m hm2 v hv
      have hni : ¬ N = i := by omega
      have hrun := run_copy_row (P := Try.prog) (w := wr.drew) 63 63 3 4 w0.heap.size i (N - i) (N - i) ⟨w0.heap.size, 0, none⟩ i N (rrowB v0 N i).toArray 4 (bools (List.replicate m v0)) Try.underlying63 rzBo1 hB.drew (by simpa [bools] using hm) hat (by
        show _ ≤ (rrowB v0 N i).toArray.size
        rw [List.size_toArray, rrowB_length _ _ _ hi2]; simp [bools]; omega) (by intro v hv; simp [bools] at hv; rw [hv.2]; rfl)
      have hlen : (bools (List.replicate m v0)).length = m := by simp [bools]
      rw [hlen, List.append_assoc, show goInt (m : Int) = .int .i64 m from rfl] at hrun
      have hg3 := setRow_heap wr.drew w0.heap.size _ ((rrowB v0 N i).toArray.toList.take i ++ (bools (List.replicate m v0) ++ (rrowB v0 N i).toArray.toList.drop (i + m))).toArray 4 _ hB.drew
      have hb3 := below_setRow (g := w0.heap.size) hb.drew (Nat.le_refl _) ((rrowB v0 N i).toArray.toList.take i ++ (bools (List.replicate m v0) ++ (rrowB v0 N i).toArray.toList.drop (i + m))).toArray
      obtain ⟨w3, hw3⟩ : ∃ w3, w3 = wr.drew.setRow w0.heap.size ((rrowB v0 N i).toArray.toList.take i ++ (bools (List.replicate m v0) ++ (rrowB v0 N i).toArray.toList.drop (i + m))).toArray := ⟨_, rfl⟩
      rw [← hw3] at hrun hg3 hb3
      have hB3 : Blk w3 w0.heap.size 4 (rrowB v0 N (i + m)).toArray := by
        have e : (rrowB v0 N i).toArray.toList.take i ++ (bools (List.replicate m v0) ++ (rrowB v0 N i).toArray.toList.drop (i + m)) = rrowB v0 N (i + m) := by
          exact rrowB_next v0 N i m (by omega)
        rw [← e]; exact hg3
      have HB3 := hide hB3
      have HBb3 := hide hb3
      clear hat hm hB hb hg3 hb3 hw3 hB3 hlen
      go_wp2_with fail
      go_region_law (fail)
      all_goals
        go_simp
        have hw : IntKind.i64.wrap ((i : Int) + m) = ((i + m : Nat) : Int) := by
          simp only [IntKind.wrap, IntKind.bits, IntKind.signed]
          go_num
        rw [hw]
        go_roundw
        case rel => exact ⟨_, _, _, _, _, _, _, _, _, _, _, _, _, _, ⟨i + m, by omega, by omega, rfl, HB3.out, HBb3.out⟩, rfl⟩
        case measure => simp [intOf]; omega
    · obtain rfl : i = N := by omega
      go_wp2_with fail
      go_ret
      refine ⟨_, _, rfl, ?_⟩
      have e : rrowB v0 i i = bools (List.replicate i v0) := by simp [rrowB]
      rw [e] at hB
      have hS := (Sep.nil No w0).consNew (w' := wr) hb (blkI w0.heap.size 4 (bools (List.replicate i v0)).toArray) hB (fun g hg => by rw [show g = w0.heap.size from hg]; exact Nat.le_refl _)
      have hrow := rowI_of_blk (n := i) (size := 1) (hS.get 0 rfl) (by simp [bools]) (by unfold maxLen; omega)
      exact hS.step 0 rfl (Chg.refl _ wr) _ hrow (fun g hg => .inl (show g = w0.heap.size from by
        have : w0.heap.size = g := by simpa [rowI, Value.ownBlock] using hg
        exact this.symm))
set_option maxHeartbeats 1600000 in
set_option maxRecDepth 100000 in
theorem repB_zero (w : World) (v0 : Bool) (g0 : Nat) (h : Blk w g0 4 #[.bool v0]) :
    Calls Try.prog 86 #[.slice (some ⟨g0, 0, none⟩) 1 1, .int .i64 0] w fun e w' => ∃ A c, e = .returned (.slice A 0 c) ∧ Sep No w w' [rowI 4 1 A 0 c []] := by
  have C := hide (rmul_any w 0 (by omega))
  have hmk : ∀ w : World, (Instr.makeSlice 63 (.int .i64 0) (.int .i64 0)).run Try.prog w = .ok (.slice (some ⟨w.heap.size, 0, none⟩) 0 0) (w.alloc (.cells #[] 4)) := fun w => by kernel_rfl
  have hcp : ∀ (W : World) (g : Nat), (Builtin.copy_ #[63, 63] 3 #[.slice (some ⟨g, 0, none⟩) 0 0, .slice (some ⟨g0, 0, none⟩) 1 1]).run Try.prog W = .ok (.int .i64 0) W := fun W g => by kernel_rfl
  go_enter Try.func86, Try.ntmps86
  go_wp2_with fail
  refine C.out.mono ?_
  rintro e w0 ⟨rfl, rfl⟩
  go_wp2_with fail
  go_loop [8] (fun v => v = .int .i64 0) (fun _ => 0)
  case atStart => rfl
  case round =>
    subst hrel
    go_wp2_with fail
    go_ret
    exact ⟨some ⟨w0.heap.size, 0, none⟩, 0, rfl, ((Sep.nil No w0).blkAt 4 #[] rfl).step 0 rfl (Chg.refl _ _) (rowI 4 1 (some ⟨w0.heap.size, 0, none⟩) 0 0 []) (by
      have h := rowI_of_blk (n := 0) (size := 1) (Blk.new w0 4 #[]) rfl (by unfold maxLen; omega)
      exact h) (fun g hg => .inl (show g = w0.heap.size from by
        have : w0.heap.size = g := by simpa [rowI, Value.ownBlock] using hg
        exact this.symm))⟩
theorem repB_any (w : World) (v0 : Bool) (N g0 : Nat) (h4 : N ≤ 24) (h : Blk w g0 4 #[.bool v0]) :
    Calls Try.prog 86 #[.slice (some ⟨g0, 0, none⟩) 1 1, .int .i64 N] w fun e w' => ∃ A c, e = .returned (.slice A N c) ∧ Sep No w w' [rowI 4 1 A N c (bools (List.replicate N v0))] := by
  rcases Nat.eq_zero_or_pos N with rfl | h1
  · exact repB_zero w v0 g0 h
  · exact repB_pos w v0 N g0 h1 h4 h
end Go.Proofs.Ytjphckfbbiehdaa

namespace Go.Proofs.Ytjphckfbbiehdaa
open Go.RowKit
theorem len8 {α : Type} {l : List α} (h : l.length = 8) : ∃ a0 a1 a2 a3 a4 a5 a6 a7, l = [a0, a1, a2, a3, a4, a5, a6, a7] := by
  match l, h with
  | [a0, a1, a2, a3, a4, a5, a6, a7], _ => exact ⟨_, _, _, _, _, _, _, _, rfl⟩
def CoS.drop (s : CoS) (i : Nat) : CoS := { s with oj := { s.oj with ps := s.oj.ps.set i none } }
end Go.Proofs.Ytjphckfbbiehdaa

namespace Go.Proofs.Ytjphckfbbiehdaa
open Go.RowKit
theorem row2 {F : Nat → Prop} {W w : World} {items : List Item} (h : Sep F W w items) (k : Nat) {g t : Nat} (hk : items[k]? = some (blkI g t #[])) : Sep F W w (items.set k (rowI t 2 (some ⟨g, 0, none⟩) 0 0 [])) :=
  h.step k hk (Chg.refl _ w) _ ⟨by simp, .inr ⟨g, 0, #[], rfl, Nat.zero_le _, h.get k hk, Nat.le_refl _, by simp only [maxLen]; omega, rfl, by simp⟩⟩ (fun g' hg => .inl (by
    have : g = g' := by simpa [rowI, Value.ownBlock] using hg
    exact this.symm))
theorem eqlNilV (w : World) : (binOp .eql 25 (.slice none 0 0) (.slice none 0 0)).run Try.prog w = .ok (.bool true) w := by kernel_rfl
theorem eqlSomeV (w : World) (ad : Addr) (n c : Nat) : (binOp .eql 25 (.slice (some ad) n c) (.slice none 0 0)).run Try.prog w = .ok (.bool false) w := by
  have h := run_equal_slice_nil (P := Try.prog) w 25 107 (some ad) n c Try.underlying25
  unfold binOp
  simp [h, go_sem]
theorem vals_one (l : List Val) : ∀ u ∈ vals l, u.oneCell' = true := fun u hu => by
  unfold vals at hu
  obtain ⟨v, _, hv⟩ := List.mem_flatMap.1 hu
  simp at hv
  rcases hv with rfl | rfl <;> rfl
set_option maxRecDepth 100000 in
set_option maxHeartbeats 1600000 in
theorem cloneV_any (w : World) (A : Option Addr) (n c : Nat) (xs : List Val) (hA : A = none → c = 0) (hn : n ≤ 1000) (hR : Rd w (fun _ => True) 2 A n (vals xs)) :
    Calls Try.prog 137 #[.slice A n c] w fun e w' => ∃ A' c', e = .returned (.slice A' n c') ∧ Sep No w w' [rowI 107 2 A' n c' (vals xs)] := by
  cases A with
  | none =>
    obtain rfl := hA rfl
    have hn0 : n = 0 := by
      rcases Nat.eq_zero_or_pos n with h | h
      · exact h
      · obtain ⟨ad, h1, _⟩ := hR.2 h; cases h1
    subst hn0
    have hx : vals xs = [] := List.eq_nil_of_length_eq_zero (by have := hR.1; simpa using this)
    rw [hx]
    have HS := hide ((Sep.nil No w).nilRow 107 2)
    clear hx hR
    have hnil := eqlNilV
    go_enter Try.func137, Try.ntmps137
    go_wp2_with fail
    go_ret
    exact ⟨none, 0, rfl, HS.out⟩
  | some ad =>
    have hS := row2 ((Sep.nil No w).blkAt 107 #[] rfl) 0 rfl
    have hR1 := hR.below hS.below_
    have hnil := eqlSomeV
    go_enter Try.func137, Try.ntmps137
    go_wp2_with (first
      | (at_builtin
         refine wpList_app rfl (.tmp 5) (.tmp 6) 25 rfl sVal hS 0 (n := 0) rfl rfl rfl hR1 (vals_one _) (by omega) ?_
         intro A4 c4 w4 hS4 hC4))
    go_ret
    rw [Nat.zero_add] at hS4
    exact ⟨A4, c4, by first | rfl | simp, hS4⟩
end Go.Proofs.Ytjphckfbbiehdaa

namespace Go.Proofs.Ytjphckfbbiehdaa
open Go.RowKit
abbrev poPtr (p : Po) : Value := .pointer (some ⟨p.B, 0, none⟩)
theorem po_snoc {w X : World} {B g5 n c5 q c7 : Nat} {A5 A7 : Option Addr} {fs : List Val} {ps : List Po} {cs : Array Value} {x : Item}
    (h : Sep No w X (blkI B 119 #[.slice A5 n c5] :: rowI 107 2 A5 n c5 (vals fs) :: blkI g5 119 cs :: x :: rowI 170 1 A7 (q + 1) c7 (ps.map poPtr ++ [.pointer (some ⟨B, 0, none⟩)]) :: ps.map poI)) :
    Sep No w X (x :: rowI 170 1 A7 (q + 1) c7 ((ps ++ [(⟨B, ⟨A5, n, c5, fs⟩⟩ : Po)]).map poPtr) :: (ps ++ [(⟨B, ⟨A5, n, c5, fs⟩⟩ : Po)]).map poI) := by
  have h0 := h.sub (l := blkI B 119 #[.slice A5 n c5] :: rowI 107 2 A5 n c5 (vals fs) :: x :: rowI 170 1 A7 (q + 1) c7 (ps.map poPtr ++ [.pointer (some ⟨B, 0, none⟩)]) :: ps.map poI) (.cons_cons _ (.cons_cons _ (.cons _ (List.Sublist.refl _))))
  have h1 := (h0.join (l := [blkI B 119 #[.slice A5 n c5], rowI 107 2 A5 n c5 (vals fs)])).perm (List.perm_append_comm (l₁ := [_]))
  rw [List.map_append, List.map_append]
  exact h1
set_option maxRecDepth 100000 in
set_option maxHeartbeats 16000000 in
theorem heapOf_any (w : World) (AO AR : Option Addr) (nO cO nR cR : Nat) (obs : List Ob) (gs : List (List Val)) (hgs : obs.map Ob.fields = gs) (hO : ObsRd w (fun _ => True) AO nO obs) (hnO : nO ≤ 24) (h4 : ∀ o ∈ obs, o.n ≤ 4) (hcp : ∀ o ∈ obs, o.A = none → o.c = 0) :
    Calls Try.prog 71 #[.agg #[.slice AO nO cO, .slice AR nR cR]] w fun e w' => ∃ (As : Option Addr) (c : Nat) (ps : List Po), e = .returned (.slice As nO c) ∧ ps.length = nO ∧ ps.map (fun p => p.o.fields) = gs ∧ Sep No w w' (rowI 170 1 As nO c (ps.map poPtr) :: ps.map poI) := by
  obtain ⟨g, hg⟩ : ∃ g, w.heap.size = g := ⟨_, rfl⟩
  have hS0 := ((Sep.nil No w).blkAt 27 #[.slice AO nO cO, .slice AR nR cR] hg).nilRow 170 1
  obtain ⟨a1, a2, a3, a4⟩ := hS0.rules 0 (g := g) (t := 27) rfl
  have a5 := (a1 0).trans (show _ = some (.slice AO nO cO) from rfl)
  have HGS := hide hgs
  have H4 := hide h4
  have HCP := hide hcp
  have HS0 := hide hS0
  have HOL := hide hO.len
  clear hS0 a1 hgs h4 hcp
  go_enter Try.func71, Try.ntmps71
  go_wp2_with fail
  go_loopw [3, 9] (fun s i wr => ∃ (q : Nat) (A' : Option Addr) (c' : Nat) (ps : List Po), q ≤ nO ∧ i = .int .i64 q ∧ s = .slice A' q c' ∧ Hid (ps.map (fun p => p.o.fields) = gs.take q) ∧
    Sep No w wr (blkI g 27 #[.slice AO nO cO, .slice AR nR cR] :: rowI 170 1 A' q c' (ps.map poPtr) :: ps.map poI)) (fun _ i _ => nO - (intOf i).toNat)
  case atStart => exact ⟨0, none, 0, [], by omega, rfl, rfl, by simp [Hid], HS0.out⟩
  case round =>
    clear HS0 a2 a3 a5
    obtain ⟨q, A', c', ps, hq, rfl, rfl, HP, hS⟩ := hrel
    by_cases hlq : q < nO
    · obtain ⟨ad2, hA2, _, had2, hc2⟩ := (hO.below hS.below_).row.at_ hlq
      have hxl : q < obs.length := by rw [HOL.out]; exact hlq
      have e1 := hc2 obs[q].val (by simp [List.getElem?_eq_getElem hxl])
      have hEach := hO.each _ (List.getElem_mem hxl)
      have ho4 := H4.out _ (List.getElem_mem hxl)
      have hoc := HCP.out _ (List.getElem_mem hxl)
      have hgt : gs.take (q + 1) = gs.take q ++ [obs[q].fields] := by
        rw [← HGS.out, ← List.map_take, ← List.map_take, List.take_succ_eq_append_getElem hxl, List.map_append]; rfl
      have HGT := hide hgt
      obtain ⟨o, ho⟩ : ∃ o, obs[q] = o := ⟨_, rfl⟩
      rw [ho] at e1 hEach ho4 hoc HGT
      unfold Ob.val at e1
      obtain ⟨oA, on, oc, ofs⟩ := o
      dsimp only at e1 hEach ho4 hoc HGT
      obtain ⟨g5, hg5⟩ : ∃ x, wr.heap.size = x := ⟨_, rfl⟩
      have hS1 := (hS.blkAt 119 #[.slice oA on oc] hg5).perm List.perm_append_comm
      have CC := hide (fun W (hb : Below w.heap.size w W) => cloneV_any W oA on oc ofs hoc (by omega) (hEach.below hb))
      have HS1 := hide hS1
      subst hA2
      clear hc2 ho hgt hS1 hS hoc hEach
      go_wp2_with fail
      refine (CC.out _ HS1.out.below_).mono ?_
      rintro e w3 ⟨A5, c5, rfl, hP⟩
      have hS3 := HS1.out.consNew hP.below_ _ (hP.get 0 rfl) (fun g hg => (hP.lo 0 rfl g hg).resolve_left (fun h => h))
      obtain ⟨b7, hb7⟩ : ∃ x, w3.heap.size = x := ⟨_, rfl⟩
      have hS4 := (hS3.blkAt 119 #[.slice A5 on c5] hb7).perm List.perm_append_comm
      clear hP hS3 HS1 CC
      go_wp2_with (first
        | (at_builtin
           refine wpList_app1 (cs := #[.pointer (some ⟨b7, 0, none⟩)]) rfl (.tmp 13) (.tmp 19) 101 rfl (F := No) (W := w) sPtr (items := _ :: _ :: _ :: _ :: _ :: _) hS4 4 (n := q) rfl rfl rfl (by simp [hb7]) rfl rfl (by omega) ?_
           intro A7 c7 w7 hS7 hC7))
      go_roundw
      case rel => exact ⟨q + 1, A7, c7, ps ++ [(⟨b7, ⟨A5, on, c5, ofs⟩⟩ : Po)], by omega, by go_num, rfl, by
        show (ps ++ [(⟨b7, ⟨A5, on, c5, ofs⟩⟩ : Po)]).map (fun p => p.o.fields) = gs.take (q + 1)
        rw [List.map_append, HP.out, HGT.out]; rfl, po_snoc hS7⟩
      case measure => simp [intOf]; omega
    · obtain rfl : q = nO := by omega
      go_wp2_with fail
      go_ret
      have h := HP.out
      have hgl : gs.length = q := by rw [← HGS.out, List.length_map]; exact HOL.out
      rw [List.take_of_length_le (by omega)] at h
      refine ⟨A', c', ps, rfl, ?_, h, hS.sub (List.sublist_cons_self _ _)⟩
      have h2 := congrArg List.length h
      rw [List.length_map] at h2
      omega
end Go.Proofs.Ytjphckfbbiehdaa

namespace Go.Proofs.Ytjphckfbbiehdaa
open Go.RowKit
def CoS.a (s : CoS) (regs : List Val) : CoA := ⟨regs, s.oj.abs, s.cols, s.gone⟩
/-- The memory, from what it is made of. -/
def co1 (As : Option Addr) (c : Nat) (ps : List Po) (Ac : Option Addr) (cc : Nat) : CoS := ⟨⟨As, c, ps.map some⟩, Ac, cc, List.replicate ps.length 0, none, 0, []⟩
theorem co1_abs (As : Option Addr) (c : Nat) (ps : List Po) (Ac : Option Addr) (cc : Nat) : (co1 As c ps Ac cc).oj.abs = (ps.map fun p => p.o.fields).map some := by
  unfold co1 Oj.abs
  dsimp only
  rw [List.map_map, List.map_map]
  rfl
end Go.Proofs.Ytjphckfbbiehdaa

namespace Go.Proofs.Ytjphckfbbiehdaa
open Go.RowKit
theorem outsV_one (o : OutV) : outsV [o] = [.int .i64 o.code, .bool o.rf, .int .i64 o.n] := rfl
end Go.Proofs.Ytjphckfbbiehdaa

namespace Go.Proofs.Ytjphckfbbiehdaa
open Go.RowKit
theorem Sep.blkAtF {F : Nat → Prop} {W w : World} {items : List Item} (h : Sep F W w items) (t : TypeId) (cs : Array Value) {g : Nat} (hg : w.heap.size = g) : Sep F W (w.alloc (.cells cs t)) (blkI g t cs :: items) := (h.blkAt t cs hg).perm (List.perm_append_comm (l₂ := [_]))
theorem sCount : SliceT Try.prog 71 174 2 16 := SliceT.mk_ Try.underlying71 (z := .agg #[.int .i64 0, .int .i64 0]) (by kernel_rfl) rfl (by omega)
theorem row_new {W w w' : World} {items : List Item} {i : Item} (h : Sep No W w items) (hP : Sep No w w' [i]) : Sep No W w' (i :: items) :=
  h.consNew hP.below_ _ (hP.get 0 rfl) (fun g hg => (hP.lo 0 rfl g hg).resolve_left (fun h => h))
end Go.Proofs.Ytjphckfbbiehdaa

namespace Go.Proofs.Ytjphckfbbiehdaa
open Go.RowKit
theorem padR_ok {n : Nat} {l : List Val} (h : ValsOk n l) (k : Nat) : ValsOk n (padR l k) := fun v hv h1 => by
  unfold padR at hv
  rcases List.mem_append.1 hv with h2 | h2
  · exact h v (List.mem_of_mem_take h2) h1
  · obtain ⟨_, rfl⟩ := List.mem_replicate.1 h2
    cases h1
end Go.Proofs.Ytjphckfbbiehdaa

namespace Go.Proofs.Ytjphckfbbiehdaa
open Go.RowKit
/-- A thing that is not there yet. -/
def nilI : Item := allI []
section
variable {F : Nat → Prop} {W w w' : World} {items : List Item}
theorem Sep.nil1 (h : Sep F W w items) : Sep F W w (nilI :: items) := Sep.join (l := []) h
theorem Sep.fill (h : Sep F W w items) (k : Nat) (hk : items[k]? = some nilI) (hb : Below w.heap.size w w') (i : Item) (hi : i.P w') (hlo : ∀ g, i.fp g → w.heap.size ≤ g) : Sep F W w' (items.set k i) :=
  h.step k hk (Chg.of_below hb _) i hi (fun g hg => .inr (hlo g hg))
theorem Sep.fillBlk (h : Sep F W w items) (k : Nat) (hk : items[k]? = some nilI) (t : TypeId) (cs : Array Value) {g : Nat} (hg : w.heap.size = g) : Sep F W (w.alloc (.cells cs t)) (items.set k (blkI g t cs)) := by
  subst hg
  exact h.fill k hk ((Below.refl _ w).alloc (Nat.le_refl _) _) _ (((Sep.start (i := allI []) (w := w) ⟨by simp, .nil⟩).blk t cs).get 1 rfl) (fun g hg => by rw [show g = w.heap.size from hg]; exact Nat.le_refl _)
theorem Sep.fillMap (h : Sep F W w items) (k : Nat) (hk : items[k]? = some nilI) {g : Nat} (hg : w.heap.size = g) : Sep F W (w.alloc (.map #[] 0)) (items.set k (gmI g 0 [])) := by
  subst hg
  exact h.fill k hk ((Below.refl _ w).alloc (Nat.le_refl _) _) _ ((Sep.gmNew (Sep.nil No w) rfl).get 0 rfl) (fun g hg => by rw [show g = w.heap.size from hg]; exact Nat.le_refl _)
theorem Sep.fillAll {l : List Item} (h : Sep F W w items) (k : Nat) (hk : items[k]? = some nilI) (hP : Sep No w w' l) : Sep F W w' (items.set k (allI l)) :=
  h.fill k hk hP.below_ _ (hP.fold.get 0 rfl) (fun g hg => (hP.fold.lo 0 rfl g hg).resolve_left (fun h => h))
theorem Sep.fillRow {i j : Item} (h : Sep F W w items) (k : Nat) (hk : items[k]? = some i) (hP : Sep No w w' [j]) : Sep F W w' (items.set k j) :=
  h.step k hk (Chg.of_below hP.below_ _) j (hP.get 0 rfl) (fun g hg => .inr ((hP.lo 0 rfl g hg).resolve_left (fun h => h)))
end
/-! ### How it begins. -/
def gnT0 (regs : List Val) (As : Option Addr) (c : Nat) (ps : List Po) (Ac : Option Addr) (cc gM : Nat) : GnT := ⟨regs, ⟨As, c, ps.map some⟩, Ac, cc, List.replicate ps.length true, gM, 0, []⟩
theorem gnT0_a (regs : List Val) (As : Option Addr) (c : Nat) (ps : List Po) (Ac : Option Addr) (cc gM : Nat) : (gnT0 regs As c ps Ac cc gM).a = gn0 ⟨regs, ps.map fun p => p.o.fields⟩ := by
  unfold GnT.a gnT0 gn0
  dsimp only
  rw [show (⟨As, c, ps.map some⟩ : Oj).abs = (ps.map fun p => p.o.fields).map some from co1_abs As c ps Ac cc, List.length_map]
theorem perm_midG {α : Type} (P A L : List α) : (P ++ (A ++ L)).Perm (A ++ P ++ L) := by
  rw [← List.append_assoc]
  exact List.Perm.append_right L List.perm_append_comm
theorem gn_mk {F : Nat → Prop} {W w : World} {Be Bm R nO c cc gM : Nat} {As Ac : Option Addr} {ps : List Po} {L : List Item} (regs : List Val) (hps : ps.length = nO)
    (h : Sep F W w (allI (rowI 170 1 As nO c (ps.map poPtr) :: ps.map poI) :: blkI Bm 113 (mcCells regs (.iface 195 (.pointer (some ⟨Be, 0, none⟩)))) :: blkI Be 199 #[.slice As nO c, .pointer (some ⟨Bm, 0, none⟩), .slice Ac nO cc, .map (some gM), .int .i64 (R : Int)] :: rowI 4 1 Ac nO cc (bools (List.replicate nO true)) :: gmI gM 0 [] :: L)) : Sep F W w ((gnKm R Bm Be).item (gnT0 regs As c ps Ac cc gM) :: L) := by
  have e : gnK Be Bm (R : Int) (gnT0 regs As c ps Ac cc gM) = [blkI Bm 113 (mcCells regs (.iface 195 (.pointer (some ⟨Be, 0, none⟩)))), blkI Be 199 #[.slice As nO c, .pointer (some ⟨Bm, 0, none⟩), .slice Ac nO cc, .map (some gM), .int .i64 (R : Int)], rowI 4 1 Ac nO cc (bools (List.replicate nO true)), gmI gM 0 []] ++ (rowI 170 1 As nO c (ps.map poPtr) :: ps.map poI) := by
    unfold gnK gnR gnM gnC oldI gnT0 ojL Oj.v
    dsimp only
    rw [List.length_map, List.length_replicate, hps, List.map_map, List.map_map]
    rfl
  refine Sep.join (l := (gnKm R Bm Be).items (gnT0 regs As c ps Ac cc gM)) ?_
  rw [show (gnKm R Bm Be).items (gnT0 regs As c ps Ac cc gM) = gnK Be Bm (R : Int) (gnT0 regs As c ps Ac cc gM) from rfl, e]
  exact (Sep.split h).perm (perm_midG _ [_, _, _, _] L)
/-! ### How it ends. -/
theorem gn_open {F : Nat → Prop} {W w : World} {Be Bm R : Nat} {t : GnT} {L : List Item} (h : Sep F W w ((gnKm R Bm Be).item t :: L)) : Sep F W w (gmI t.b t.N t.mks :: allI (gnM Be Bm t :: blkI Be 199 (gnC Bm (R : Int) t) :: oldI t.Ao t.oc t.old.length t.old :: ojL t.oj) :: L) := by
  have h1 : Sep F W w (gnK Be Bm (R : Int) t ++ L) := Sep.split (l := (gnKm R Bm Be).items t) h
  have h2 : Sep F W w ((gnM Be Bm t :: blkI Be 199 (gnC Bm (R : Int) t) :: oldI t.Ao t.oc t.old.length t.old :: ojL t.oj) ++ (gmI t.b t.N t.mks :: L)) := h1.perm (by
    refine List.Perm.cons _ (List.Perm.cons _ (List.Perm.cons _ ?_))
    exact (List.perm_middle (l₁ := ojL t.oj) (a := gmI t.b t.N t.mks) (l₂ := L)).symm)
  exact (Sep.join h2).perm (List.Perm.swap _ _ _)
/-- Which are there, and how old. -/
theorem gn_cell_old {F : Nat → Prop} {W w : World} {Be Bm R : Nat} {t : GnT} {L : List Item} (h : Sep F W w ((gnKm R Bm Be).item t :: L)) {z : Nat} (hz : z < t.old.length) :
    ∃ go, t.Ao = some ⟨go, 0, none⟩ ∧ w.cell? ⟨Be, 2, none⟩ = some (.slice (some ⟨go, 0, none⟩) t.old.length t.oc) ∧ w.cell? ⟨go, z, none⟩ = some (.bool (t.old.getD z false)) ∧ go < w.heap.size ∧ Be < w.heap.size := by
  have hS := gkm_flat (h.get 0 rfl)
  obtain ⟨-, -, k2, -, -, -, k6⟩ := gn_cells (pre := []) hS
  obtain ⟨go, hgo⟩ := old_some hS (k := 2) rfl (by omega)
  have hrow := hS.get 2 rfl
  unfold oldI at hrow
  rw [hgo] at hrow k2
  refine ⟨go, hgo, k2, (bo_cell hrow z hz).1, ?_, k6⟩
  exact hS.hi 2 rfl go (by rw [hgo]; exact oldI_fp.2 rfl)
end Go.Proofs.Ytjphckfbbiehdaa
