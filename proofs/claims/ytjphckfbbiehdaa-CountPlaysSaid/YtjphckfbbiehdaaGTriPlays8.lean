/- slices.Repeat of one number, at most twenty-four times. A memory with colours: a script that may be. The reference's memory with colours: what it has in memory; it becomes grey. -/
import Derived.Laws.CopyOwn
import Derived.Test.YtjphckfbbiehdaaGTriPlays0
import Derived.Test.YtjphckfbbiehdaaGTriPlays6
import Derived.Test.YtjphckfbbiehdaaGTriPlays7
import Derived.Test.YtjphckfbbiehdaaGIdealPlays18
import Derived.Deep.DeepCutAuto
import Derived.Test.YtjphckfbbiehdaaGTriPlays5
import Derived.Test.YtjphckfbbiehdaaGIdealPlays10
import Derived.Test.YtjphckfbbiehdaaGIdealPlays9
import Derived.StillTailTactics
set_option linter.unusedSimpArgs false
set_option linter.unusedVariables false
namespace Go.Proofs.Ytjphckfbbiehdaa
open Go.RowKit

/-- A made block is a row. -/
theorem rowI_of_blk {w : World} {g t size n : Nat} {cs : Array Value} (h : Blk w g t cs) (hs : cs.size = n * size) (hm : n ≤ maxLen) : (rowI t size (some ⟨g, 0, none⟩) n n cs.toList).P w :=
  ⟨by rw [Array.length_toList, hs], .inr ⟨g, n, cs, rfl, Nat.zero_le _, h, Nat.le_refl _, hm, hs, by rw [List.take_of_length_le (by rw [Array.length_toList]; omega)]⟩⟩

theorem raddr0 (g j : Nat) : (⟨g, 0, none⟩ : Addr).add j = ⟨g, j, none⟩ := by
  unfold Addr.add; split <;> simp_all


set_option maxHeartbeats 6400000 in
theorem rmul64 (w : World) (N : Nat) (h1 : N ≤ 24) :
    Calls Try.prog 179 #[.int .u64 1, .int .u64 N] w fun e w' => e = .returned (.tuple #[.int .u64 0, .int .u64 N]) ∧ w' = w := by
  rcases (show N = 0 ∨ N = 1 ∨ N = 2 ∨ N = 3 ∨ N = 4 ∨ N = 5 ∨ N = 6 ∨ N = 7 ∨ N = 8 ∨ N = 9 ∨ N = 10 ∨ N = 11 ∨ N = 12 ∨ N = 13 ∨ N = 14 ∨ N = 15 ∨ N = 16 ∨ N = 17 ∨ N = 18 ∨ N = 19 ∨ N = 20 ∨ N = 21 ∨ N = 22 ∨ N = 23 ∨ N = 24 from by omega) with rfl | rfl | rfl | rfl | rfl | rfl | rfl | rfl | rfl | rfl | rfl | rfl | rfl | rfl | rfl | rfl | rfl | rfl | rfl | rfl | rfl | rfl | rfl | rfl | rfl
  all_goals
    go_enter Try.func179, Try.ntmps179
    go_wp2_with fail
    refine bodyPost_ret (v := .tuple #[.int .u64 0, _]) (by simp [results, Try.results179, go_sem]; rfl) rfl ⟨rfl, rfl⟩

set_option maxHeartbeats 1600000 in
theorem rmul_any (w : World) (N : Nat) (h1 : N ≤ 24) :
    Calls Try.prog 145 #[.int .u64 1, .int .u64 N] w fun e w' => e = .returned (.tuple #[.int .u64 0, .int .u64 N]) ∧ w' = w := by
  go_enter Try.func145, Try.ntmps145
  go_wp2_with fail
  refine (rmul64 w N h1).mono ?_
  rintro e w1 ⟨rfl, rfl⟩
  go_wp2_with fail
  refine bodyPost_ret (v := .tuple #[.int .u64 0, .int .u64 N]) (by simp [results, Try.results145, go_sem]) rfl ⟨rfl, rfl⟩

theorem rblk_of_row {w : World} {base g t n : Nat} {xs : List Value} (h : w.ownsRow base t 1 (.slice (some ⟨g, 0, none⟩) n n) n xs) : Blk w g t xs.toArray := by
  obtain ⟨h1, h2⟩ := h
  rcases h2 with ⟨h0, _⟩ | ⟨g', cap', cur, hv, hg, hh, hn, hcap, hsz, htake⟩
  · cases h0
  · cases hv
    have : xs.toArray = cur := by
      rw [← htake, List.take_of_length_le (by simp [hsz])]
    rw [this]; exact hh

theorem rzInt : (Try.prog.info? 3).map (fun i => (i.zero, i.size, i.bytes)) = some (some (.int .i64 0), 1, 8) := by kernel_rfl
theorem rzInt1 : (Try.prog.info? 3).map (·.size) = some 1 := by kernel_rfl
theorem rmadeInts (n : Nat) : (madeCells (Value.cells (.int .i64 0)) (n * 1)).toList = ints (List.replicate n 0) := by
  apply List.ext_getElem
  · simp [madeCells, ints]
  · intro i h1 h2
    simp [madeCells, Value.cells, ints, Nat.mod_one]
def rrowC (v0 : Int) (N i : Nat) : List Value := ints (List.replicate i v0 ++ List.replicate (N - i) 0)

theorem rrow_length (v0 : Int) (N i : Nat) (h : i ≤ N) : (rrowC v0 N i).length = N := by
  simp [rrowC, ints]; omega
theorem rrow_at (v0 : Int) (N i j m : Nat) (hm : m ≤ i) (v : Value) (hv : (ints (List.replicate m v0))[j]? = some v) : (rrowC v0 N i)[j]? = some v := by
  have hj : j < m := by
    have := (List.getElem?_eq_some_iff.1 hv).1
    simpa [ints] using this
  rw [← hv]
  have hj2 : j < i := by omega
  simp [rrowC, ints, List.getElem?_append, List.getElem?_replicate, hj, hj2]

theorem rrow_next (v0 : Int) (N i m : Nat) (h : i + m ≤ N) : (rrowC v0 N i).toArray.toList.take i ++ (ints (List.replicate m v0) ++ (rrowC v0 N i).toArray.toList.drop (i + m)) = rrowC v0 N (i + m) := by
  obtain ⟨r, rfl⟩ : ∃ r, N = i + m + r := ⟨N - (i + m), by omega⟩
  have e1 : i + m + r - i = m + r := by omega
  have e2 : i + m + r - (i + m) = r := by omega
  unfold rrowC ints
  rw [e1, e2, List.map_append, List.map_append, List.map_replicate, List.map_replicate, List.map_replicate, List.map_replicate, List.map_replicate]
  simp [List.drop_append]
  rw [← List.append_assoc, List.replicate_append_replicate]
set_option maxHeartbeats 1600000 in
set_option maxRecDepth 100000 in
theorem repeat_pos (w : World) (v0 : Int) (N g0 : Nat) (h1 : 1 ≤ N) (h4 : N ≤ 24) (h : Blk w g0 3 #[.int .i64 v0]) :
    Calls Try.prog 95 #[.slice (some ⟨g0, 0, none⟩) 1 1, .int .i64 N] w fun e w' => ∃ A c, e = .returned (.slice A N c) ∧ Sep No w w' [rowI 3 1 A N c (ints (List.replicate N v0))] := by
  have C := hide (rmul_any w N h4)
  go_enter Try.func95, Try.ntmps95
  go_wp2_with fail
  refine C.out.mono ?_
  rintro e w0 ⟨rfl, rfl⟩
  have hN : decide ((9223372036854775807 : Int) < N) = false := by simp; omega
  go_wp2_with (first
    | (refine wpList_make rfl (.tmp 29) (.tmp 29) 35 rfl (Sep.nil No w0) Try.underlying35 rzInt (by omega) .i64 .i64 N rfl rfl (by omega) ?_
       intro w1 hS1 hb1
       rw [rmadeInts] at hS1
       (have hB1 : Blk w1 w0.heap.size 3 (ints (List.replicate N 0)).toArray := rblk_of_row (base := 0) (n := N) (hS1.get 0 rfl))
       have hG1 := h.below_ hb1)
    | (refine wpList_copy_splice rfl (.tmp 31) (.tmp 32) 35 35 rfl 3 Try.underlying35 rzInt1 (some ⟨w0.heap.size, 0, none⟩) (some ⟨g0, 0, none⟩) N N 1 1 rfl rfl w0.heap.size 0 (ints (List.replicate N 0)) 3 hB1 [.int .i64 v0] (by simp [Nat.min_eq_left h1]) (fun _ => ⟨rfl, _, rfl, fun j v hv => by
          rcases j with _ | j
          · simp at hv; subst hv; rw [raddr0, hG1.cell]; rfl
          · simp at hv⟩) (by simp [ints]; omega) (by simp [Value.oneCell']) w0.heap.size w0 hb1 (Nat.le_refl _) ?_
       intro w2 hg2 hb2))
  have hB2 : Blk w2 w0.heap.size 3 (rrowC v0 N 1).toArray := by
    have e : splice (ints (List.replicate N 0)) 0 [.int .i64 v0] = rrowC v0 N 1 := by
      obtain ⟨m, rfl⟩ : ∃ m, N = m + 1 := ⟨N - 1, by omega⟩
      simp [splice, rrowC, ints, List.replicate_succ]
    rw [← e]; exact hg2.out
  clear hg2 hG1 hB1 hb1 hS1 C
  go_loopw [8] (fun v wr => ∃ i : Nat, 1 ≤ i ∧ i ≤ N ∧ v = .int .i64 i ∧ Blk wr w0.heap.size 3 (rrowC v0 N i).toArray ∧ Below w0.heap.size w0 wr) (fun v _ => N - (intOf v).toNat)
  case atStart => exact ⟨1, by omega, by omega, rfl, hB2, hb2⟩
  case round =>
    obtain ⟨i, hi1, hi2, rfl, hB, hb⟩ := hrel
    clear hB2 hb2
    by_cases hlt : i < N
    · obtain ⟨m, hm⟩ : ∃ m, m = Nat.min i (N - i) := ⟨_, rfl⟩
      have hm1 : 1 ≤ m := by rw [hm]; exact Nat.le_min.2 ⟨hi1, by omega⟩
      have hm2 : m ≤ i := by rw [hm]; exact Nat.min_le_left _ _
      have hm3 : m ≤ N - i := by rw [hm]; exact Nat.min_le_right _ _
      have hat : ∀ j v, (ints (List.replicate m v0))[j]? = some v → wr.drew.cell? ((⟨w0.heap.size, 0, none⟩ : Addr).add j) = some v := by
        intro j v hv
        rw [raddr0, hB.drew.cell]
        simpa using rrow_at v0 N i j m hm2 v hv
      have hni : ¬ N = i := by omega
      have hrun := run_copy_row (P := Try.prog) (w := wr.drew) 35 35 3 3 w0.heap.size i (N - i) (N - i) ⟨w0.heap.size, 0, none⟩ i N (rrowC v0 N i).toArray 3 (ints (List.replicate m v0)) Try.underlying35 rzInt1 hB.drew (by simpa [ints] using hm) hat (by
        show _ ≤ (rrowC v0 N i).toArray.size
        rw [List.size_toArray, rrow_length _ _ _ hi2]; simp [ints]; omega) (by intro v hv; simp [ints] at hv; rw [hv.2]; rfl)
      have hlen : (ints (List.replicate m v0)).length = m := by simp [ints]
      rw [hlen, List.append_assoc, show goInt (m : Int) = .int .i64 m from rfl] at hrun
      have hg3 := setRow_heap wr.drew w0.heap.size _ ((rrowC v0 N i).toArray.toList.take i ++ (ints (List.replicate m v0) ++ (rrowC v0 N i).toArray.toList.drop (i + m))).toArray 3 _ hB.drew
      have hb3 := below_setRow (g := w0.heap.size) hb.drew (Nat.le_refl _) ((rrowC v0 N i).toArray.toList.take i ++ (ints (List.replicate m v0) ++ (rrowC v0 N i).toArray.toList.drop (i + m))).toArray
      obtain ⟨w3, hw3⟩ : ∃ w3, w3 = wr.drew.setRow w0.heap.size ((rrowC v0 N i).toArray.toList.take i ++ (ints (List.replicate m v0) ++ (rrowC v0 N i).toArray.toList.drop (i + m))).toArray := ⟨_, rfl⟩
      rw [← hw3] at hrun hg3 hb3
      have hB3 : Blk w3 w0.heap.size 3 (rrowC v0 N (i + m)).toArray := by
        have e : (rrowC v0 N i).toArray.toList.take i ++ (ints (List.replicate m v0) ++ (rrowC v0 N i).toArray.toList.drop (i + m)) = rrowC v0 N (i + m) := by
          exact rrow_next v0 N i m (by omega)
        rw [← e]; exact hg3
      have HB3 := hide hB3
      have HBb3 := hide hb3
      clear hat hm hB hb hg3 hb3 hw3 hB3 hlen
      go_wp2_with fail
      go_region_law (fail)
      all_goals
        go_simp
        have hw : IntKind.i64.wrap ((i : Int) + m) = ((i + m : Nat) : Int) := by
          simp only [IntKind.wrap, IntKind.bits, IntKind.signed]
          go_num
        rw [hw]
        go_roundw
        case rel => exact ⟨_, _, _, _, _, _, _, _, _, _, _, _, _, _, ⟨i + m, by omega, by omega, rfl, HB3.out, HBb3.out⟩, rfl⟩
        case measure => simp [intOf]; omega
    · obtain rfl : i = N := by omega
      go_wp2_with fail
      go_ret
      refine ⟨_, _, rfl, ?_⟩
      have e : rrowC v0 i i = ints (List.replicate i v0) := by simp [rrowC]
      rw [e] at hB
      have hS := (Sep.nil No w0).consNew (w' := wr) hb (blkI w0.heap.size 3 (ints (List.replicate i v0)).toArray) hB (fun g hg => by rw [show g = w0.heap.size from hg]; exact Nat.le_refl _)
      have hrow := rowI_of_blk (n := i) (size := 1) (hS.get 0 rfl) (by simp [ints]) (by unfold maxLen; omega)
      exact hS.step 0 rfl (Chg.refl _ wr) _ hrow (fun g hg => .inl (show g = w0.heap.size from by
        have : w0.heap.size = g := by simpa [rowI, Value.ownBlock] using hg
        exact this.symm))

set_option maxHeartbeats 1600000 in
set_option maxRecDepth 100000 in
theorem repeat_zero (w : World) (v0 : Int) (g0 : Nat) (h : Blk w g0 3 #[.int .i64 v0]) :
    Calls Try.prog 95 #[.slice (some ⟨g0, 0, none⟩) 1 1, .int .i64 0] w fun e w' => ∃ A c, e = .returned (.slice A 0 c) ∧ Sep No w w' [rowI 3 1 A 0 c []] := by
  have C := hide (rmul_any w 0 (by omega))
  have hmk : ∀ w : World, (Instr.makeSlice 35 (.int .i64 0) (.int .i64 0)).run Try.prog w = .ok (.slice (some ⟨w.heap.size, 0, none⟩) 0 0) (w.alloc (.cells #[] 3)) := fun w => by kernel_rfl
  have hcp : ∀ (W : World) (g : Nat), (Builtin.copy_ #[35, 35] 3 #[.slice (some ⟨g, 0, none⟩) 0 0, .slice (some ⟨g0, 0, none⟩) 1 1]).run Try.prog W = .ok (.int .i64 0) W := fun W g => by kernel_rfl
  go_enter Try.func95, Try.ntmps95
  go_wp2_with fail
  refine C.out.mono ?_
  rintro e w0 ⟨rfl, rfl⟩
  go_wp2_with fail
  go_loop [8] (fun v => v = .int .i64 0) (fun _ => 0)
  case atStart => rfl
  case round =>
    subst hrel
    go_wp2_with fail
    go_ret
    exact ⟨some ⟨w0.heap.size, 0, none⟩, 0, rfl, ((Sep.nil No w0).blkAt 3 #[] rfl).step 0 rfl (Chg.refl _ _) (rowI 3 1 (some ⟨w0.heap.size, 0, none⟩) 0 0 []) (by
      have h := rowI_of_blk (n := 0) (size := 1) (Blk.new w0 3 #[]) rfl (by unfold maxLen; omega)
      exact h) (fun g hg => .inl (show g = w0.heap.size from by
        have : w0.heap.size = g := by simpa [rowI, Value.ownBlock] using hg
        exact this.symm))⟩
theorem repeat_any (w : World) (v0 : Int) (N g0 : Nat) (h4 : N ≤ 24) (h : Blk w g0 3 #[.int .i64 v0]) :
    Calls Try.prog 95 #[.slice (some ⟨g0, 0, none⟩) 1 1, .int .i64 N] w fun e w' => ∃ A c, e = .returned (.slice A N c) ∧ Sep No w w' [rowI 3 1 A N c (ints (List.replicate N v0))] := by
  rcases Nat.eq_zero_or_pos N with rfl | h1
  · exact repeat_zero w v0 g0 h
  · exact repeat_pos w v0 N g0 h1 h4 h
end Go.Proofs.Ytjphckfbbiehdaa

namespace Go.Proofs.Ytjphckfbbiehdaa
open Go.RowKit

set_option maxRecDepth 100000 in
set_option maxHeartbeats 32000000 in
theorem triPlay_ok (w : World) (AO AR Ad : Option Addr) (nO cO nR cR nd cd : Nat) (obs : List Ob) (roots : List Val) (gs : List (List Val)) (ds : List DoV) (q : Nat) (hq : q = 1 ∨ q = 2 ∨ q = 3) (hgs : obs.map Ob.fields = gs) (hO : ObsRd w (fun _ => True) AO nO obs) (hR : Rd w (fun _ => True) 2 AR nR (vals roots)) (hcp : ∀ o ∈ obs, o.A = none → o.c = 0) (hz : triErr nO nR nd obs roots q = 0)
    (hM : MOk ⟨padR roots nR, gs⟩) (hD : Rd w (fun _ => True) 5 Ad nd (dosV ds)) :
    Calls Try.prog 40 #[.agg #[.slice AO nO cO, .slice AR nR cR], .int .i64 q, .slice Ad nd cd] w fun e w' => ∃ A c A2 n2 c2 A3 n3 c3, e = .returned (.tuple #[.agg #[.slice A nd c, .slice A2 n2 c2, .slice A3 n3 c3], .int .i64 0]) ∧ Below w.heap.size w w' ∧ Rd w' (fun g => w.heap.size ≤ g) 3 A nd (outsV (coRun q ds (co0 ⟨padR roots nR, gs⟩)).1) ∧ Rd w' (fun g => w.heap.size ≤ g) 2 A2 n2 (countsV (coThere (coRun q ds (co0 ⟨padR roots nR, gs⟩)).2)) ∧ Rd w' (fun g => w.heap.size ≤ g) 1 A3 n3 (ints (coRun q ds (co0 ⟨padR roots nR, gs⟩)).2.gone) := by
  obtain ⟨hx, hnd⟩ : gcheck nO nR obs roots = 0 ∧ nd ≤ 100 := by
    unfold triErr at hz
    split at hz
    · rename_i h; exact absurd hz h
    · rename_i h
      split at hz
      · omega
      · split at hz
        · omega
        · exact ⟨by omega, by omega⟩
  have hG := gok_of hO hx
  have hnO := hG.nO_
  have hnR := hG.nR_
  have HDL := hide (show ds.length = nd by have := hD.1; rw [dosV_length] at this; omega)
  have hgl : gs.length = nO := by rw [← hgs, List.length_map]; exact hO.len
  obtain ⟨g, hg⟩ : ∃ g, w.heap.size = g := ⟨_, rfl⟩
  have hS0 := ((Sep.nil No w).blkAt 27 #[.slice AO nO cO, .slice AR nR cR] hg).blkAt 94 #[.slice none 0 0, .slice none 0 0, .slice none 0 0] (g := g + 1) (by simp [hg])
  have C1 := graphCheck_any _ AO AR nO cO nR cR obs roots (hO.below hS0.below_) (hR.below hS0.below_)
  rw [hx] at C1
  replace C1 := hide C1
  have C2 := fun w' => barrierOf_any w' (q : Int)
  have hbv : barV (q : Int) = .iface (barOf q).T (.agg #[]) := by
    rcases hq with rfl | rfl | rfl <;> rfl
  rw [hbv] at C2
  have HKO := hide (fun Bm Be => coK_ok (barOf q) (barOf_ok q) Bm Be)
  have CO := hide (fun w' (hb : Below w.heap.size w w') => heapOf_any w' AO AR nO cO nR cR obs gs hgs (hO.below hb) hnO hG.fl hcp)
  have CI := hide (fun w' (hb : Below w.heap.size w w') => heapFirst_any w' AO AR nO cO nR cR roots (hR.below hb) hnR)
  have CR := hide (fun (X : World) (g0 : Nat) (h : Blk X g0 3 #[.int .i64 0]) => repeat_any X 0 nO g0 hnO h)
  obtain ⟨PR, hPR⟩ : ∃ l, padR roots nR = l := ⟨_, rfl⟩
  rw [hPR] at hM ⊢
  simp only [hPR] at CI
  obtain ⟨p0, p1, p2, p3, p4, p5, p6, p7, hp⟩ := len8 (show PR.length = 8 from hM.r8)
  obtain ⟨σ0, hσ⟩ : ∃ σ, (⟨PR, gs⟩ : MSt) = σ := ⟨_, rfl⟩
  rw [hσ] at hM ⊢
  have HSG := hide hσ
  have HSO := hide (show σ0.objs.length = nO by rw [← hσ]; exact hgl)
  have HAT := hide (fun k (hk : k ≤ ds.length) => co_at hq hM ds (by rw [← hσ]; show gs.length ≤ 24; omega) (by have := HDL.out; omega) k hk)
  have HGN := hide (fun k (hk : k ≤ ds.length) => co_goneN hq hM ds (by rw [← hσ]; show gs.length ≤ 24; omega) (by have := HDL.out; omega) k hk)
  have HM := hide hM
  have HPV := hide hp
  have hCI2 : ∀ w' (hb : Below w.heap.size w w'), Calls Try.prog 72 #[.agg #[.slice AO nO cO, .slice AR nR cR]] w' fun e w2 => e = .returned (.agg #[.bool p0.1, .int .i64 p0.2, .bool p1.1, .int .i64 p1.2, .bool p2.1, .int .i64 p2.2, .bool p3.1, .int .i64 p3.2, .bool p4.1, .int .i64 p4.2, .bool p5.1, .int .i64 p5.2, .bool p6.1, .int .i64 p6.2, .bool p7.1, .int .i64 p7.2]) ∧ Below w'.heap.size w' w2 := by rw [hp] at CI; exact CI.out
  replace CI := hide hCI2
  obtain ⟨a1, a2, a3, a4⟩ := hS0.rules 0 (g := g) (t := 27) rfl
  have HS0 := hide hS0
  have t1 : decide ((100 : Int) < (nd : Int)) = false := by simp; omega
  have t2 : decide (100 < nd) = false := by simp; omega
  have HQ := hide hq
  obtain ⟨T, hT⟩ : ∃ T, (barOf q).T = T := ⟨_, rfl⟩
  rw [hT] at C2
  have HT := hide (show (barOf q).bv = .iface T (.agg #[]) by rw [← hT]; rfl)
  have HC2 := hide C2
  clear hgs hO hR hgl hS0 hM hCI2 hG hcp hz hx hσ hPR hp a1 a4 hq hbv hT C2
  go_enter Try.func40, Try.ntmps40
  go_wp2_with fail
  refine C1.out.mono ?_
  rintro e w1 ⟨rfl, hb1⟩
  have HS1 := hide (HS0.out.below hb1)
  clear hb1 C1 HS0 a2 a3
  go_wp2_with fail
  refine (HC2.out _).mono ?_
  rintro e w2 ⟨rfl, hb2⟩
  have hS2 := HS1.out.below hb2
  obtain ⟨b1, b2, b3, b4⟩ := hS2.rules 0 (g := g) (t := 27) rfl
  have b5 := (b1 0).trans (show _ = some (.slice AO nO cO) from rfl)
  have b6 := (b1 1).trans (show _ = some (.slice AR nR cR) from rfl)
  have HS2 := hide hS2
  clear hb2 hS2 HS1 HC2 b1 b4
  go_wp2_with fail
  go_cut [10] from 33 to 42 (fun s10 wx => ∃ (Be c2 cc : Nat) (As Ac : Option Addr) (ps : List Po), s10 = .pointer (some ⟨Be, 0, none⟩) ∧ Hid (ps.length = nO ∧ (ps.map fun p => p.o.fields) = gs) ∧ Sep No w wx [coI Be (.iface T (.agg #[])) (co1 As c2 ps Ac cc), blkI g 27 #[.slice AO nO cO, .slice AR nR cR], blkI (g + 1) 94 #[.slice none 0 0, .slice none 0 0, .slice none 0 0]])
  case first =>
    have hSa := (HS2.out.blkAtF 3 #[.int .i64 0] (g := w2.heap.size) rfl).drew
    have HSa := hide hSa
    clear hSa
    go_region_held3 (fun w' => w'.cell? ⟨g, 0, none⟩ = some (.slice AO nO cO) ∧ w'.cell? ⟨g, 1, none⟩ = some (.slice AR nR cR)) (simp (config := { maxDischargeDepth := 8 }) [*, World.cell?_alloc_some])
      (first
        | (go_at_call 71
           first
           | (with_reducible refine (CO.out _ HSa.out.below_).mono ?_
              rintro e w4 ⟨As, c2, ps, rfl, hpl, hpf, hP4⟩
              have hS4 := objs_new HSa.out hP4
              obtain ⟨k1, k2, k3, _⟩ := hS4.rules 2 (g := g) (t := 27) rfl
              (have k5 := (k1 0).trans (show _ = some (.slice AO nO cO) from rfl))
              (have k6 := (k1 1).trans (show _ = some (.slice AR nR cR) from rfl))
              have HS4 := hide hS4
              have HPL := hide hpl
              have HPF := hide hpf
              have HFST := hide True.intro
              clear hS4 hP4 k1 hpl hpf)
           | (with_reducible refine (CO.out _ HS2.out.drew.below_).mono ?_
              rintro e w4 ⟨As, c2, ps, rfl, hpl, hpf, hP4⟩
              have hS4 := (objs_new HS2.out.drew hP4)
              obtain ⟨k1, k2, k3, _⟩ := hS4.rules 1 (g := g) (t := 27) rfl
              (have k5 := (k1 0).trans (show _ = some (.slice AO nO cO) from rfl))
              (have k6 := (k1 1).trans (show _ = some (.slice AR nR cR) from rfl))
              have HS4 := hide ((hS4.blkAtF 3 #[.int .i64 0] (g := w4.heap.size) rfl).perm (List.Perm.swap _ _ _))
              have HPL := hide hpl
              have HPF := hide hpf
              clear hS4 hP4 k1 hpl hpf))
        | (go_at_call 95
           (with_reducible refine (CR.out _ _ (HS4.out.get 1 rfl)).mono ?_)
           rintro e w5 ⟨Ac, cc, rfl, hP5⟩
           have hS5 := row_new HS4.out hP5
           obtain ⟨l1, l2, l3, _⟩ := hS5.rules 3 (g := g) (t := 27) rfl
           (have l5 := (l1 0).trans (show _ = some (.slice AO nO cO) from rfl))
           (have l6 := (l1 1).trans (show _ = some (.slice AR nR cR) from rfl))
           have HS5 := hide hS5
           clear hP5 hS5 HS4 l1))
    all_goals
      go_wp2_with fail
      go_meet
      case rel => exact ⟨w5.heap.size, c2, cc, As, Ac, ps, rfl, hide ⟨HPL.out, HPF.out⟩, ((co_mk HPL.out (HS5.out.blkAtF 213 #[.slice As nO c2, .iface T (.agg #[]), .slice Ac nO cc, .slice none 0 0] (g := w5.heap.size) rfl)).perm (List.Perm.cons _ (List.perm_append_comm (l₁ := [_]) (l₂ := [_, _])))).sub (List.sublist_append_left [_, _, _] [_])⟩
  case rest =>
    obtain ⟨Be, c2, cc, As, Ac, ps, rfl, HPP, hS7⟩ := hcut
    have HPL := hide HPP.out.1
    have HPF := hide HPP.out.2
    clear HPP CO CR b2 b3 b5 b6 HS2
    obtain ⟨l1, l2, l3, _⟩ := hS7.rules 1 (g := g) (t := 27) rfl
    have l5 := (l1 0).trans (show _ = some (.slice AO nO cO) from rfl)
    have l6 := (l1 1).trans (show _ = some (.slice AR nR cR) from rfl)
    have CI2 := hide (CI.out _ hS7.below_)
    have HS7 := hide hS7
    clear hS7 l1 CI
    go_wp2_with fail
    refine CI2.out.mono ?_
    rintro e w6 ⟨rfl, hb6⟩
    obtain ⟨Bm, hBm⟩ : ∃ x, w6.heap.size = x := ⟨_, rfl⟩
    have hS8 := (HS7.out.below hb6).blkAtF 113 #[.bool p0.1, .int .i64 p0.2, .bool p1.1, .int .i64 p1.2, .bool p2.1, .int .i64 p2.2, .bool p3.1, .int .i64 p3.2, .bool p4.1, .int .i64 p4.2, .bool p5.1, .int .i64 p5.2, .bool p6.1, .int .i64 p6.2, .bool p7.1, .int .i64 p7.2, .iface 210 (.pointer (some ⟨Be, 0, none⟩))] hBm
    have hS9 := hS8.perm (List.Perm.swap _ _ _)
    have hregs : σ0.regs = [p0, p1, p2, p3, p4, p5, p6, p7] := by rw [← HSG.out]; exact HPV.out
    have hc1 : (co1 As c2 ps Ac cc).cols.length = nO := by show (List.replicate ps.length (0 : Int)).length = nO; rw [List.length_replicate]; exact HPL.out
    have CB := begin_any (hS9.get 0 rfl) (by rw [hc1]; omega) (regs := [p0, p1, p2, p3, p4, p5, p6, p7]) rfl (fun v hv h1 => by
      rw [← hregs] at hv
      obtain ⟨h2, h3⟩ := HM.out.vr v hv h1
      obtain ⟨z, hz⟩ := int_nat h2
      exact ⟨z, hz, by rw [hc1]; have := HSO.out; omega⟩)
    have hCB2 : Calls Try.prog 96 #[.pointer (some ⟨Be, 0, none⟩), .agg #[.bool p0.1, .int .i64 p0.2, .bool p1.1, .int .i64 p1.2, .bool p2.1, .int .i64 p2.2, .bool p3.1, .int .i64 p3.2, .bool p4.1, .int .i64 p4.2, .bool p5.1, .int .i64 p5.2, .bool p6.1, .int .i64 p6.2, .bool p7.1, .int .i64 p7.2]] _ _ := CB
    obtain ⟨f1, f2, f3, _⟩ := hS9.rules 1 (g := Bm) (t := 113) rfl
    have e0 := (f1 0).trans (show _ = some (.bool p0.1) from rfl)
    have e1 := (f1 1).trans (show _ = some (.int .i64 p0.2) from rfl)
    have e2 := (f1 2).trans (show _ = some (.bool p1.1) from rfl)
    have e3 := (f1 3).trans (show _ = some (.int .i64 p1.2) from rfl)
    have e4 := (f1 4).trans (show _ = some (.bool p2.1) from rfl)
    have e5 := (f1 5).trans (show _ = some (.int .i64 p2.2) from rfl)
    have e6 := (f1 6).trans (show _ = some (.bool p3.1) from rfl)
    have e7 := (f1 7).trans (show _ = some (.int .i64 p3.2) from rfl)
    have e8 := (f1 8).trans (show _ = some (.bool p4.1) from rfl)
    have e9 := (f1 9).trans (show _ = some (.int .i64 p4.2) from rfl)
    have e10 := (f1 10).trans (show _ = some (.bool p5.1) from rfl)
    have e11 := (f1 11).trans (show _ = some (.int .i64 p5.2) from rfl)
    have e12 := (f1 12).trans (show _ = some (.bool p6.1) from rfl)
    have e13 := (f1 13).trans (show _ = some (.int .i64 p6.2) from rfl)
    have e14 := (f1 14).trans (show _ = some (.bool p7.1) from rfl)
    have e15 := (f1 15).trans (show _ = some (.int .i64 p7.2) from rfl)
    have HCB := hide hCB2
    have HS9 := hide hS9
    have HAB := hide (show ((co1 As c2 ps Ac cc).col (beginC (co1 As c2 ps Ac cc).cols.length [p0, p1, p2, p3, p4, p5, p6, p7])).a [p0, p1, p2, p3, p4, p5, p6, p7] = (coRun q (ds.take 0) (co0 σ0)).2 from by
      rw [List.take_zero, hc1]
      show (⟨_, (co1 As c2 ps Ac cc).oj.abs, _, _⟩ : CoA) = co0 σ0
      rw [co1_abs, HPF.out]
      unfold co0
      rw [hregs, ← HSO.out, ← HSG.out]
      rfl)
    clear hS8 hS9 CB hCB2 HS7 CI2 f1 hb6 l2 l3 l5 l6 hregs hc1
    go_wp2_with fail
    refine HCB.out.mono ?_
    rintro e w7 ⟨⟨u, rfl⟩, hP7⟩
    have hS10 := (HS9.out.call 0 rfl hP7).nilRow0 41 3
    obtain ⟨gO, hgO⟩ : ∃ x, w7.heap.size = x := ⟨_, rfl⟩
    have hS11 := hS10.blkAtF 94 #[.slice none 0 0, .slice none 0 0, .slice none 0 0] hgO
    have HS11 := hide (hS11.perm (l := [coI Be (.iface T (.agg #[])) ((co1 As c2 ps Ac cc).col (beginC (co1 As c2 ps Ac cc).cols.length [p0, p1, p2, p3, p4, p5, p6, p7])), blkI Bm 113 (mcCells [p0, p1, p2, p3, p4, p5, p6, p7] (.iface 210 (.pointer (some ⟨Be, 0, none⟩)))), blkI gO 94 #[.slice none 0 0, .slice none 0 0, .slice none 0 0], rowI 41 3 none 0 0 [], blkI g 27 #[.slice AO nO cO, .slice AR nR cR], blkI (g + 1) 94 #[.slice none 0 0, .slice none 0 0, .slice none 0 0]]) (by
      exact (List.perm_append_comm (l₁ := [_, _]) (l₂ := [_, _])).append_right _))
    clear hP7 hS10 hS11 HS9 HCB e0 e1 e2 e3 e4 e5 e6 e7 e8 e9 e10 e11 e12 e13 e14 e15 f2 f3
    go_wp2_with fail
    go_loopw [57] (fun i wr => ∃ (k : Nat) (A : Option Addr) (c : Nat) (s : CoS) (regs : List Val), k ≤ nd ∧ i = .int .i64 k ∧ Hid (s.a regs = (coRun q (ds.take k) (co0 σ0)).2) ∧
      Sep No w wr [coI Be (.iface T (.agg #[])) s, blkI Bm 113 (mcCells regs (.iface 210 (.pointer (some ⟨Be, 0, none⟩)))), blkI gO 94 #[.slice A k c, .slice none 0 0, .slice none 0 0], rowI 41 3 A k c (outsV (coRun q (ds.take k) (co0 σ0)).1), blkI g 27 #[.slice AO nO cO, .slice AR nR cR], blkI (g + 1) 94 #[.slice none 0 0, .slice none 0 0, .slice none 0 0]]) (fun i _ => nd - (intOf i).toNat)
    case atStart => exact ⟨0, none, 0, _, _, by omega, rfl, HAB.out, HS11.out⟩
    case round =>
      clear HS11 HAB
      obtain ⟨k, A, c, s, regs, hk, rfl, HA, hS⟩ := hrel
      by_cases hlt : k < nd
      · have hkl : k < ds.length := by rw [HDL.out]; exact hlt
        obtain ⟨ok0, on, _⟩ := HAT.out k (by omega)
        have hgn := HGN.out k (by omega)
        rw [← HA.out] at ok0 on hgn
        have hgn2 : s.gone.length ≤ 100000 := by have h1 : (s.a regs).gone.length = s.gone.length := rfl; omega
        obtain ⟨v0, v1, v2, v3, v4⟩ := dosV_at ds k hkl
        obtain ⟨ad, hA, _, had, hc, hd⟩ := (hD.below hS.below_).atN hlt
        have e0 := hc _ v0
        have e1 := hd 0 _ v1
        have e2 := hd 1 _ v2
        have e3 := hd 2 _ v3
        have e4 := hd 3 _ v4
        have hrs := coRun_at q ds (co0 σ0) k hkl
        rw [← HA.out] at hrs
        obtain ⟨d, hd'⟩ : ∃ d, ds[k] = d := ⟨_, rfl⟩
        rw [hd'] at e0 e1 e2 e3 e4 hrs
        obtain ⟨gd, hgd⟩ : ∃ x, wr.heap.size = x := ⟨_, rfl⟩
        have hS2 := (hS.blkAt 39 d.cells hgd).blkAt 41 #[.int .i64 0, .bool false, .int .i64 0] (g := gd + 1) (by simp [hgd])
        have hgO := hS.hi 2 rfl gO rfl
        have hBm := hS.hi 1 rfl Bm rfl
        have n1 : gO ≠ gd := by omega
        have n2 : gO ≠ gd + 1 := by omega
        have n3 : gd ≠ gO := by omega
        have n4 : gd + 1 ≠ gO := by omega
        have n5 : gd + 1 ≠ gd := by omega
        have n6 : gd ≠ gd + 1 := by omega
        subst hA
        by_cases h8 : d.k = 8
        · have CW := hide (cowork_any (hS2.get 0 rfl) ok0)
          have hst : coStep q d (s.a regs) = coWork (s.a regs) := by unfold coStep; rw [if_pos h8]
          rw [hst] at hrs
          have HRS := hide hrs
          have HS2 := hide hS2
          obtain ⟨dk, dto, dfr, dat, dn⟩ := d
          dsimp only at h8 e0 e1 e2 e3 e4
          subst h8
          clear hrs hS2 hS hc hd v0 v1 v2 v3 v4 hd' hst ok0 on hgn hgn2
          unfold DoV.cells at CW HS2
          go_wp2_with fail
          refine CW.out.mono ?_
          rintro e w4 ⟨x, s', rfl, hcw, hP4⟩
          have hS4 := HS2.out.call 0 rfl hP4
          obtain ⟨u1, u2, u3, _⟩ := hS4.rules 2 (g := gO) (t := 94) rfl
          have u5 := (u1 0).trans (show _ = some (.slice A k c) from rfl)
          obtain ⟨x1, x2, x3, _⟩ := hS4.rules 7 (g := gd + 1) (t := 41) rfl
          have x5 := (x1 0).trans (show _ = some (.int .i64 0) from rfl)
          have x6 := (x1 1).trans (show _ = some (.bool false) from rfl)
          have x7 := (x1 2).trans (show _ = some (.int .i64 0) from rfl)
          have hrs := HRS.out
          rw [hcw] at hrs
          have HRS := hide hrs
          have HS5 := hide (hS4.set_ 7 (g := gd + 1) (t := 41) rfl 0 (.int .i64 x))
          clear hS4 hP4 HS2 CW u1 x1 hrs hcw
          go_wp2_with (first
            | (at_builtin
               refine wpList_app1 (cs := #[.int .i64 x, .bool false, .int .i64 0]) rfl (.tmp 82) (.tmp 84) 23 rfl (F := No) (W := w) sOut (items := _ :: _ :: _ :: _ :: _) HS5.out 3 (n := k) rfl rfl rfl (by simp) rfl rfl (by omega) ?_
               intro A6 c6 w6 hS6 hC6
               obtain ⟨u1, u2, u3, _⟩ := hS6.rules 2 (g := gO) (t := 94) rfl))
          have hS7 := hS6.set_ 2 (g := gO) (t := 94) rfl 0 (.slice A6 (k + 1) c6)
          have HS7 := hide (hS7.sub (l := [_, _, _, _, _, _]) (List.sublist_append_left [_, _, _, _, _, _] [_, _]))
          clear hS6 hC6 hS7 u1 HS5
          go_roundw
          case rel => exact ⟨k + 1, A6, c6, s', regs, by omega, by go_num, by rw [HRS.out]; exact hide rfl, by
            rw [HRS.out]
            dsimp only
            rw [outsV_app, outsV_one]
            exact HS7.out⟩
          case measure => simp [intOf]; omega
        by_cases h9 : d.k = 9
        · obtain ⟨q0, q1, q2, q3, q4, q5, q6, q7, hq8⟩ := len8 (show regs.length = 8 from ok0.r8)
          subst hq8
          unfold DoV.cells at hS2
          have CS := cosweep_any (hS2.get 0 rfl) ok0 hgn2
          have hCS : Calls Try.prog 98 #[.pointer (some ⟨Be, 0, none⟩), .agg #[.bool q0.1, .int .i64 q0.2, .bool q1.1, .int .i64 q1.2, .bool q2.1, .int .i64 q2.2, .bool q3.1, .int .i64 q3.2, .bool q4.1, .int .i64 q4.2, .bool q5.1, .int .i64 q5.2, .bool q6.1, .int .i64 q6.2, .bool q7.1, .int .i64 q7.2]] _ _ := CS
          obtain ⟨f1, f2, f3, _⟩ := hS2.rules 1 (g := Bm) (t := 113) rfl
          have r0 := (f1 0).trans (show _ = some (.bool q0.1) from rfl)
          have r1 := (f1 1).trans (show _ = some (.int .i64 q0.2) from rfl)
          have r2 := (f1 2).trans (show _ = some (.bool q1.1) from rfl)
          have r3 := (f1 3).trans (show _ = some (.int .i64 q1.2) from rfl)
          have r4 := (f1 4).trans (show _ = some (.bool q2.1) from rfl)
          have r5 := (f1 5).trans (show _ = some (.int .i64 q2.2) from rfl)
          have r6 := (f1 6).trans (show _ = some (.bool q3.1) from rfl)
          have r7 := (f1 7).trans (show _ = some (.int .i64 q3.2) from rfl)
          have r8 := (f1 8).trans (show _ = some (.bool q4.1) from rfl)
          have r9 := (f1 9).trans (show _ = some (.int .i64 q4.2) from rfl)
          have r10 := (f1 10).trans (show _ = some (.bool q5.1) from rfl)
          have r11 := (f1 11).trans (show _ = some (.int .i64 q5.2) from rfl)
          have r12 := (f1 12).trans (show _ = some (.bool q6.1) from rfl)
          have r13 := (f1 13).trans (show _ = some (.int .i64 q6.2) from rfl)
          have r14 := (f1 14).trans (show _ = some (.bool q7.1) from rfl)
          have r15 := (f1 15).trans (show _ = some (.int .i64 q7.2) from rfl)
          have hst : coStep q d (s.a [q0, q1, q2, q3, q4, q5, q6, q7]) = coSweep (s.a [q0, q1, q2, q3, q4, q5, q6, q7]) := by unfold coStep; rw [if_neg (by omega), if_pos h9]
          rw [hst] at hrs
          have HRS := hide hrs
          have HS2 := hide hS2
          have HCS := hide hCS
          obtain ⟨dk, dto, dfr, dat, dn⟩ := d
          dsimp only at h9 e0 e1 e2 e3 e4 HS2 HCS r0 r1 r2 r3 r4 r5 r6 r7 r8 r9 r10 r11 r12 r13 r14 r15 f2 f3
          subst h9
          clear hrs hS2 hS hc hd v0 v1 v2 v3 v4 hd' hst ok0 on hgn hgn2 CS hCS f1 h8
          go_wp2_with fail
          refine HCS.out.mono ?_
          rintro e w4 ⟨x, s', rfl, hcw, hP4⟩
          have hS4 := HS2.out.call 0 rfl hP4
          obtain ⟨u1, u2, u3, _⟩ := hS4.rules 2 (g := gO) (t := 94) rfl
          have u5 := (u1 0).trans (show _ = some (.slice A k c) from rfl)
          obtain ⟨x1, x2, x3, _⟩ := hS4.rules 7 (g := gd + 1) (t := 41) rfl
          have x5 := (x1 0).trans (show _ = some (.int .i64 0) from rfl)
          have x6 := (x1 1).trans (show _ = some (.bool false) from rfl)
          have x7 := (x1 2).trans (show _ = some (.int .i64 0) from rfl)
          have hrs := HRS.out
          rw [hcw] at hrs
          have HRS := hide hrs
          have HS5 := hide (hS4.set_ 7 (g := gd + 1) (t := 41) rfl 0 (.int .i64 x))
          clear hS4 hP4 HS2 HCS u1 x1 hrs hcw r0 r1 r2 r3 r4 r5 r6 r7 r8 r9 r10 r11 r12 r13 r14 r15
          go_wp2_with (first
            | (at_builtin
               refine wpList_app1 (cs := #[.int .i64 x, .bool false, .int .i64 0]) rfl (.tmp 82) (.tmp 84) 23 rfl (F := No) (W := w) sOut (items := _ :: _ :: _ :: _ :: _) HS5.out 3 (n := k) rfl rfl rfl (by simp) rfl rfl (by omega) ?_
               intro A6 c6 w6 hS6 hC6
               obtain ⟨u1, u2, u3, _⟩ := hS6.rules 2 (g := gO) (t := 94) rfl))
          have hS7 := hS6.set_ 2 (g := gO) (t := 94) rfl 0 (.slice A6 (k + 1) c6)
          have HS7 := hide (hS7.sub (l := [_, _, _, _, _, _]) (List.sublist_append_left [_, _, _, _, _, _] [_, _]))
          clear hS6 hC6 hS7 u1 HS5
          go_roundw
          case rel => exact ⟨k + 1, A6, c6, s', [q0, q1, q2, q3, q4, q5, q6, q7], by omega, by go_num, by rw [HRS.out]; exact hide rfl, by
            rw [HRS.out]
            dsimp only
            rw [outsV_app, outsV_one]
            exact HS7.out⟩
          case measure => simp [intOf]; omega
        · have hS2b : Sep No w ((wr.alloc (.cells d.cells 39)).alloc (.cells #[.int .i64 0, .bool false, .int .i64 0] 41)) (coI Be (barOf q).bv s :: blkI Bm 113 (mcCells regs (.iface 210 (.pointer (some ⟨Be, 0, none⟩)))) :: [blkI gO 94 #[.slice A k c, .slice none 0 0, .slice none 0 0], rowI 41 3 A k c (outsV (coRun q (ds.take k) (co0 σ0)).1), blkI g 27 #[.slice AO nO cO, .slice AR nR cR], blkI (g + 1) 94 #[.slice none 0 0, .slice none 0 0, .slice none 0 0], blkI gd 39 d.cells, blkI (gd + 1) 41 #[.int .i64 0, .bool false, .int .i64 0]]) := by rw [HT.out]; exact hS2
          have CD := codo_any q hS2b ok0 (by omega) d
          rw [HT.out] at CD
          have hst : coStep q d (s.a regs) = coDo (barOf q) d (s.a regs) := by unfold coStep; rw [if_neg h8, if_neg h9]
          rw [hst] at hrs
          have HRS := hide hrs
          have HCD := hide CD
          obtain ⟨dk, dto, dfr, dat, dn⟩ := d
          dsimp only at h8 h9 e0 e1 e2 e3 e4
          have y8 : (dk == 8) = false := by simp [h8]
          have y9 : (dk == 9) = false := by simp [h9]
          clear hrs hS2 hS2b hS hc hd v0 v1 v2 v3 v4 hd' hst ok0 on hgn hgn2 CD h8 h9
          unfold DoV.cells at HCD
          go_wp2_with fail
          refine HCD.out.mono ?_
          rintro e w4 ⟨oc, orf, on, s', regs', rfl, hcw, hS4⟩
          obtain ⟨u1, u2, u3, _⟩ := hS4.rules 2 (g := gO) (t := 94) rfl
          have u5 := (u1 0).trans (show _ = some (.slice A k c) from rfl)
          obtain ⟨x1, x2, x3, _⟩ := hS4.rules 7 (g := gd + 1) (t := 41) rfl
          have x5 := (x1 0).trans (show _ = some (.int .i64 0) from rfl)
          have x6 := (x1 1).trans (show _ = some (.bool false) from rfl)
          have x7 := (x1 2).trans (show _ = some (.int .i64 0) from rfl)
          have hrs := HRS.out
          rw [hcw] at hrs
          have HRS := hide hrs
          have HS5 := hide (((hS4.set_ 7 (g := gd + 1) (t := 41) rfl 0 (.int .i64 oc)).set_ 7 (g := gd + 1) (t := 41) rfl 1 (.bool orf)).set_ 7 (g := gd + 1) (t := 41) rfl 2 (.int .i64 on))
          clear hS4 HCD u1 x1 hrs hcw
          go_wp2_with (first
            | (at_builtin
               refine wpList_app1 (cs := #[.int .i64 oc, .bool orf, .int .i64 on]) rfl (.tmp 82) (.tmp 84) 23 rfl (F := No) (W := w) sOut (items := _ :: _ :: _ :: _ :: _) HS5.out 3 (n := k) rfl rfl rfl (by simp) rfl rfl (by omega) ?_
               intro A6 c6 w6 hS6 hC6
               obtain ⟨u1, u2, u3, _⟩ := hS6.rules 2 (g := gO) (t := 94) rfl))
          have hS7 := hS6.set_ 2 (g := gO) (t := 94) rfl 0 (.slice A6 (k + 1) c6)
          have HS7 := hide (hS7.sub (l := [_, _, _, _, _, _]) (List.sublist_append_left [_, _, _, _, _, _] [_, _]))
          clear hS6 hC6 hS7 u1 HS5
          go_roundw
          case rel => exact ⟨k + 1, A6, c6, s', regs', by omega, by go_num, by rw [HRS.out]; exact hide rfl, by
            rw [HRS.out]
            dsimp only
            rw [outsV_app, outsV_one]
            exact HS7.out⟩
          case measure => simp [intOf]; omega
      · obtain rfl : k = nd := by omega
        obtain ⟨ok0, on, _⟩ := HAT.out k (by have := HDL.out; omega)
        rw [← HA.out] at ok0 on
        rw [List.take_of_length_le (by rw [HDL.out]; exact Nat.le_refl _)] at HA hS
        have hn : s.oj.ps.length ≤ 1000 := by have h1 := coa_len s regs; omega
        have hcl : s.cols.length = s.oj.ps.length := ok0.cl.trans (coa_len s regs)
        obtain ⟨b0, _, b2⟩ := co_01 (hS.get 0 rfl)
        have CT := hide (oThere_any wr s.oj.As s.oj.ps.length s.oj.c s.oj.ps hn (((Sep.start (hS.get 0 rfl)).flat).rd_ 3 rfl))
        have HTN := hide (fun x (h : x ∈ thereL s.oj.ps) => thereL_nat h)
        have HTL := hide (thereK_len s.oj.ps s.oj.ps.length)
        obtain ⟨L, hL⟩ : ∃ l, thereL s.oj.ps = l := ⟨_, rfl⟩
        have hm1 : L.length ≤ 1000 := by have h1 := HTL.out; have h2 : L.length = (thereK s.oj.ps s.oj.ps.length).length := by { rw [← hL]; rfl }
                                         omega
        have HTH := hide (show coThere (coRun q ds (co0 σ0)).2 = L.map fun x => (x, s.cols.getD x.toNat 0) from by
          rw [← HA.out]
          unfold coThere
          rw [show thereL (s.a regs).objs = thereL s.oj.ps from thereL_abs s.oj, hL]
          rfl)
        have HGO := hide (show (coRun q ds (co0 σ0)).2.gone = s.gone from by rw [← HA.out]; rfl)
        rw [hL] at CT HTN
        have HS := hide hS
        clear hS ok0 on HTL hL HA
        obtain ⟨N, hN⟩ : ∃ n, s.oj.ps.length = n := ⟨_, rfl⟩
        rw [hN] at hn hcl b0 CT HTN
        have HCL := hide hcl
        clear hN hcl
        go_wp2_with fail
        refine CT.out.mono ?_
        rintro e w1 ⟨AL, cL, rfl, hPL⟩
        obtain ⟨m, hm⟩ : ∃ m, L.length = m := ⟨_, rfl⟩
        rw [hm] at hPL hm1 ⊢
        have HM2 := hide hm
        have HS1 := hide ((row_new HS.out hPL).nilRow0 174 2)
        clear hPL HS CT hm b0 b2
        go_wp2_with fail
        go_loopw [94] (fun i wr => ∃ (j : Nat) (A2 : Option Addr) (c2 : Nat), j ≤ m ∧ i = .int .i64 j ∧
          Sep No w wr [rowI 174 2 A2 j c2 (countsV ((L.take j).map fun x => (x, s.cols.getD x.toNat 0))), rowI 3 1 AL m cL (ints L), coI Be (.iface T (.agg #[])) s, blkI Bm 113 (mcCells regs (.iface 210 (.pointer (some ⟨Be, 0, none⟩)))), blkI gO 94 #[.slice A k c, .slice A2 j c2, .slice none 0 0], rowI 41 3 A k c (outsV (coRun q ds (co0 σ0)).1), blkI g 27 #[.slice AO nO cO, .slice AR nR cR], blkI (g + 1) 94 #[.slice none 0 0, .slice none 0 0, .slice none 0 0]]) (fun i _ => m - (intOf i).toNat)
        case atStart => exact ⟨0, none, 0, by omega, rfl, HS1.out⟩
        case round =>
          clear HS1
          obtain ⟨j, A2, c2, hj, rfl, hS⟩ := hrel
          by_cases hlt : j < m
          · have hkl : j < L.length := by rw [HM2.out]; exact hlt
            obtain ⟨ad, hA, _, had, hc⟩ := (hS.rd_ 1 rfl).at_ hlt
            have e0 := hc (.int .i64 L[j]) (by simp [ints, List.getElem?_eq_getElem hkl])
            have hT := List.take_succ_eq_append_getElem hkl
            have hmem : L[j] ∈ L := List.getElem_mem hkl
            obtain ⟨x, hx⟩ : ∃ x, L[j] = x := ⟨_, rfl⟩
            rw [hx] at e0 hT hmem
            obtain ⟨z, rfl, hz⟩ := HTN.out x hmem
            obtain ⟨gc, hAc, d0, d1, _, d3, d4, n7⟩ := co_cell (hS.get 2 rfl) (z := z) (by rw [HCL.out]; exact hz)
            rw [HCL.out] at d0
            obtain ⟨y, hy⟩ : ∃ y, s.cols.getD z 0 = y := ⟨_, rfl⟩
            rw [hy] at d1
            have HTT := hide (show (L.take (j + 1)).map (fun x => (x, s.cols.getD x.toNat 0)) = (L.take j).map (fun x => (x, s.cols.getD x.toNat 0)) ++ [((z : Int), y)] from by
              rw [hT, List.map_append, List.map_cons, List.map_nil, Int.toNat_natCast, hy])
            obtain ⟨u1, u2, u3, _⟩ := hS.rules 4 (g := gO) (t := 94) rfl
            have u5 := (u1 1).trans (show _ = some (.slice A2 j c2) from rfl)
            have t3 : decide ((z : Int) < 0) = false := by simp
            have t4 : decide ((N : Int) ≤ (z : Int)) = false := by simp; omega
            have t5 : (0 : Int) ≤ (z : Int) := by omega
            have t6 : (z : Int) < (N : Int) := by omega
            have HS := hide hS
            have n1 : gO ≠ Be := fun e => hS.other (a := 4) (b := 2) rfl rfl (by omega) gO rfl ⟨blkI Be 213 (coC (.iface T (.agg #[])) s), by simp [coR], e⟩
            have n2 : gO ≠ gc := fun e => hS.other (a := 4) (b := 2) rfl rfl (by omega) gO rfl ⟨rowI 3 1 s.Ac s.cols.length s.cc (ints s.cols), by simp [coR], by show (Value.slice s.Ac s.cols.length s.cc).ownBlock = some gO; rw [hAc, e]; rfl⟩
            have n3 : Be ≠ gO := fun e => n1 e.symm
            have n4 : gc ≠ gO := fun e => n2 e.symm
            obtain ⟨scc, hscc⟩ : ∃ c, s.cc = c := ⟨_, rfl⟩
            rw [hscc] at d0
            have HCO := hide (fun (X : World) (h : (coI Be (.iface T (.agg #[])) s).P X) => co_cell_at h (z := z) (by rw [HCL.out]; exact hz) hAc)
            simp only [HCL.out, hy, hscc] at HCO
            subst hA
            clear hc hT hmem hx hy hS u1 hAc hscc
            go_wp2_with fail
            try clear hD
            try clear hnd
            try clear hnO
            try clear hnR
            try clear HDL
            try clear HKO
            try clear HSG
            try clear HSO
            try clear HAT
            try clear HGN
            try clear HM
            try clear HPV
            try clear HQ
            try clear HT
            try clear HPL
            try clear HPF
            try clear HTH
            try clear HGO
            try clear HTN
            try clear HCL
            try clear HM2
            try clear CO
            try clear CR
            try clear HCI
            try clear t1
            try clear t2
            try clear hg
            try clear hn
            try clear hk
            try clear had
            try clear hkl
            try clear e0
            try clear HFST
            go_region_law (first
              | (refine step_app1d (cs := #[.int .i64 z, .int .i64 y]) rfl (.tmp 99) (.tmp 109) 71 rfl (F := No) (W := w) sCount (items := _ :: _ :: _ :: _ :: _ :: _ :: _ :: _) HS.out 0 (n := j) rfl rfl rfl (by simp) rfl rfl (by omega) ?_
                 intro A7 c7 w7 hS7 hC7
                 obtain ⟨z1, z2, z3, z4⟩ := hS7.rules 4 (g := gO) (t := 94) rfl
                 (have z5 := (z1 1).trans (show _ = some (.slice A2 j c2) from rfl))
                 obtain ⟨o1, o2, o3, o4⟩ := HCO.out w7 (hS7.get 2 rfl)
                 clear z1 z4))
            all_goals
              have HS8 := hide (hS7.set_ 4 (g := gO) (t := 94) rfl 1 (.slice A7 (j + 1) c7))
              clear hS7 hC7
              go_wp2_with fail
              go_roundw
              case rel => exact ⟨j + 1, A7, c7, by omega, by go_num, by
                rw [HTT.out, countsV_app]
                exact HS8.out⟩
              case measure => simp [intOf]; omega
          · obtain rfl : j = m := by omega
            rw [List.take_of_length_le (by rw [HM2.out]; exact Nat.le_refl _), ← HTH.out] at hS
            obtain ⟨u1, u2, u3, _⟩ := hS.rules 4 (g := gO) (t := 94) rfl
            have u5 := (u1 0).trans (show _ = some (.slice A k c) from rfl)
            have u6 := (u1 1).trans (show _ = some (.slice A2 j c2) from rfl)
            have u7 := (u1 2).trans (show _ = some (.slice none 0 0) from rfl)
            have hCf := (Sep.start (hS.get 2 rfl)).flat
            obtain ⟨b1, _, b3, _⟩ := hCf.rules 0 (g := Be) (t := 213) rfl
            have b5 := (b1 3).trans (show _ = some (.slice s.Ag s.gone.length s.cg) from rfl)
            obtain ⟨x1, x2, x3, _⟩ := hS.rules 7 (g := g + 1) (t := 94) rfl
            have n1 : gO ≠ Be := fun e => hS.other (a := 4) (b := 2) rfl rfl (by omega) gO rfl ⟨blkI Be 213 (coC (.iface T (.agg #[])) s), by simp [coR], e⟩
            have n2 : gO ≠ g + 1 := fun e => hS.other (a := 4) (b := 7) rfl rfl (by omega) gO rfl e
            have n3 : Be ≠ gO := fun e => n1 e.symm
            have n4 : g + 1 ≠ gO := fun e => n2 e.symm
            have HF1 := hide ((hS.set_ 4 (g := gO) (t := 94) rfl 2 (.slice s.Ag s.gone.length s.cg)).set_ 7 (g := g + 1) (t := 94) rfl 0 (.slice A k c))
            obtain ⟨gl, hgl⟩ : ∃ x, s.gone.length = x := ⟨_, rfl⟩
            have HGL := hide hgl
            rw [hgl] at b5
            clear hS hCf b1 u1 hgl
            go_wp2_with fail
            have hF := (HF1.out.set_ 7 (g := g + 1) (t := 94) rfl 1 (.slice A2 j c2)).set_ 7 (g := g + 1) (t := 94) rfl 2 (.slice s.Ag s.gone.length s.cg)
            rw [HGL.out] at hF
            refine bodyPost_ret (v := .tuple #[.agg #[.slice A k c, .slice A2 j c2, .slice s.Ag gl s.cg], .int .i64 0]) (by simp [results, Try.results40, go_sem, x1]) rfl ⟨A, c, A2, j, c2, s.Ag, gl, s.cg, rfl, hF.below_, hF.rd 5 rfl, hF.rd 0 rfl, ?_⟩
            rw [HGO.out]
            have hrow : World.ownsRow _ 0 3 1 (.slice s.Ag s.gone.length s.cg) s.gone.length (ints s.gone) := (Sep.start (hF.get 2 rfl)).flat.get 2 rfl
            rw [HGL.out] at hrow
            exact Rd.of_own hrow (fun g' hg' => (hF.lo 2 rfl g' ⟨rowI 3 1 s.Ag s.gone.length s.cg (ints s.gone), by simp [coR], by show (Value.slice s.Ag s.gone.length s.cg).ownBlock = some g'; rw [hg']; rfl⟩).resolve_left (fun h => h))
end Go.Proofs.Ytjphckfbbiehdaa

namespace Go.Proofs.Ytjphckfbbiehdaa
open Go.RowKit

structure SdS where
  Bm : Nat
  m : RMem
  q : Int
  Ac : Option Addr
  cc : Nat
  cols : List Int
def sdC (s : SdS) : Array Value := #[.pointer (some ⟨s.Bm, 0, none⟩), .int .i64 s.q, .slice s.Ac s.cols.length s.cc]
def sdR (Bs : Nat) (s : SdS) : List Item := [blkI Bs 218 (sdC s), rowI 3 1 s.Ac s.cols.length s.cc (ints s.cols), rmI s.Bm s.m]
def sdI (Bs : Nat) (s : SdS) : Item := allI (sdR Bs s)
def SdS.col (s : SdS) (l : List Int) : SdS := { s with cols := l }
theorem sd_cells {Bs : Nat} {s : SdS} {w : World} (hP : (sdI Bs s).P w) : w.cell? ⟨Bs, 0, none⟩ = some (.pointer (some ⟨s.Bm, 0, none⟩)) ∧ w.cell? ⟨Bs, 1, none⟩ = some (.int .i64 s.q) ∧ w.cell? ⟨Bs, 2, none⟩ = some (.slice s.Ac s.cols.length s.cc) ∧ Bs < w.heap.size ∧ (∀ i, w.frozen? ⟨Bs, i, none⟩ = false) := by
  obtain ⟨b1, b2, b3, _⟩ := ((Sep.start hP).flat).rules 0 (g := Bs) (t := 218) rfl
  exact ⟨(b1 0).trans rfl, (b1 1).trans rfl, (b1 2).trans rfl, b3, b2⟩
theorem sd_mem {Bs : Nat} {s : SdS} {w : World} (hP : (sdI Bs s).P w) : (rmI s.Bm s.m).P w := ((Sep.start hP).flat).get 2 rfl
theorem sd_cell {Bs : Nat} {s : SdS} {w : World} (hP : (sdI Bs s).P w) {z : Nat} (hz : z < s.cols.length) : ∃ gc, s.Ac = some ⟨gc, 0, none⟩ ∧ w.cell? ⟨Bs, 2, none⟩ = some (.slice (some ⟨gc, 0, none⟩) s.cols.length s.cc) ∧ w.cell? ⟨gc, z, none⟩ = some (.int .i64 (s.cols.getD z 0)) ∧ w.frozen? ⟨gc, z, none⟩ = false ∧ gc < w.heap.size ∧ Bs < w.heap.size ∧ Bs ≠ gc := by
  have hS := (Sep.start hP).flat
  obtain ⟨gc, hA, hzl, e0, e1, e2⟩ := int_at (show (rowI 3 1 s.Ac s.cols.length s.cc (ints s.cols)).P w from hS.get 1 rfl) hz
  obtain ⟨b1, b2, b3, _⟩ := hS.rules 0 (g := Bs) (t := 218) rfl
  have b5 := (b1 2).trans (show _ = some (.slice s.Ac s.cols.length s.cc) from rfl)
  rw [hA] at b5
  exact ⟨gc, hA, b5, e0, e1, e2, b3, fun e => hS.other (a := 0) (b := 1) rfl rfl (by omega) Bs rfl (by show (Value.slice s.Ac s.cols.length s.cc).ownBlock = some Bs; rw [hA, e]; rfl)⟩
/-- The colours and the memory's own things lie apart. -/
theorem sd_apart {Bs : Nat} {s : SdS} {w : World} (hP : (sdI Bs s).P w) {gc : Nat} (hA : s.Ac = some ⟨gc, 0, none⟩) : ∀ k, (rmI s.Bm s.m).fp k → k ≠ gc ∧ k ≠ Bs := fun k hk =>
  ⟨fun e => ((Sep.start hP).flat).other (a := 2) (b := 1) rfl rfl (by omega) k hk (by show (Value.slice s.Ac s.cols.length s.cc).ownBlock = some k; rw [hA, e]; rfl), fun e => ((Sep.start hP).flat).other (a := 2) (b := 0) rfl rfl (by omega) k hk e⟩
theorem sd_store {F : Nat → Prop} {W w : World} {Bs : Nat} {s : SdS} (h : Sep F W w [sdI Bs s]) {z gc : Nat} (hA : s.Ac = some ⟨gc, 0, none⟩) (y : Int) : Sep F W (w.setCell ⟨gc, z, none⟩ (.int .i64 y)) [sdI Bs (s.col (s.cols.set z y))] := by
  have hS1 : Sep F W w (sdR Bs s) := h.flat
  have he : rowI 3 1 s.Ac s.cols.length s.cc (ints s.cols) = rowI 3 1 (some ⟨gc, 0, none⟩) s.cols.length s.cc (ints s.cols) := by rw [hA]
  have hS2 : Sep F W w [blkI Bs 218 (sdC s), rowI 3 1 (some ⟨gc, 0, none⟩) s.cols.length s.cc (ints s.cols), rmI s.Bm s.m] := by rw [← he]; exact hS1
  have hS3 := hS2.store 1 (g := gc) rfl z (.int .i64 y)
  rw [ints_setC] at hS3
  have h4 : Sep F W (w.setCell ⟨gc, z, none⟩ (.int .i64 y)) (sdR Bs (s.col (s.cols.set z y))) := by
    unfold sdR sdC SdS.col
    dsimp only
    rw [List.length_set, hA]
    simp only [List.set_cons_succ, List.set_cons_zero] at hS3
    unfold sdC at hS3
    rw [hA] at hS3
    exact hS3
  exact h4.fold

set_option maxRecDepth 100000 in
set_option maxHeartbeats 4000000 in
theorem rshade_any {Bs : Nat} {s : SdS} {w : World} (hP : (sdI Bs s).P w) (hn : s.cols.length ≤ 1000) (v : Val) (hv : vin s.cols.length v) :
    Calls Try.prog 100 #[.pointer (some ⟨Bs, 0, none⟩), .agg #[.bool v.1, .int .i64 v.2]] w fun e w' => (∃ u, e = .returned u) ∧ Sep (sdI Bs s).fp w w' [sdI Bs (s.col (shadeC s.cols v))] := by
  obtain ⟨F, hF⟩ : ∃ F, (sdI Bs s).fp = F := ⟨_, rfl⟩
  obtain ⟨g, hg⟩ : ∃ g, w.heap.size = g := ⟨_, rfl⟩
  have hS0 := (Sep.start hP).blkAt 107 #[.bool v.1, .int .i64 v.2] hg
  rw [hF] at hS0 ⊢
  obtain ⟨W, hW⟩ : ∃ W, w.alloc (.cells #[.bool v.1, .int .i64 v.2] 107) = W := ⟨_, rfl⟩
  rw [hW] at hS0
  obtain ⟨x1, x2, x3, _⟩ := hS0.rules 1 (g := g) (t := 107) rfl
  have x5 := (x1 0).trans (show _ = some (.bool v.1) from rfl)
  have x6 := (x1 1).trans (show _ = some (.int .i64 v.2) from rfl)
  have HW := hide hW
  have HGG := hide hg
  unfold shadeC
  obtain ⟨bv, mv⟩ := v
  cases bv with
  | false =>
    have HS0 := hide hS0
    rw [if_neg (by simp [whiteB])]
    dsimp only at HS0 x5 x6 HW ⊢
    clear hS0 hP hF hW hg hv x1
    go_enter Try.func100, Try.ntmps100
    go_wp2_with fail
    rw [HW.out, HGG.out]
    go_quiet (fail)
    go_wp2_with fail
    go_end0
    exact ⟨⟨_, rfl⟩, (HS0.out.drewN _).sub (List.sublist_append_left [_] [_])⟩
  | true =>
    obtain ⟨z, hz0, hz⟩ := hv rfl
    dsimp only at hz0
    subst hz0
    obtain ⟨gc, hA, c0, c1, c2, c3, c4, n1⟩ := sd_cell (hS0.get 0 rfl) hz
    have n2 : gc ≠ Bs := fun e => n1 e.symm
    have n3 : gc ≠ g := fun e => hS0.other (a := 0) (b := 1) rfl rfl (by omega) gc ⟨rowI 3 1 s.Ac s.cols.length s.cc (ints s.cols), by simp [sdR], by show (Value.slice s.Ac s.cols.length s.cc).ownBlock = some gc; rw [hA]; rfl⟩ e
    have n4 : g ≠ gc := fun e => n3 e.symm
    have hwb : whiteB s.cols ((true, (z : Int)) : Val) = decide (s.cols.getD z 0 = 0) := by unfold whiteB; simp
    rw [hwb]
    have HST := hide (fun (X : World) (h : Sep F w X ([sdI Bs s] ++ [blkI g 107 #[.bool true, .int .i64 (z : Int)]])) => sd_store (h.sub (List.sublist_append_left [_] [_])) (z := z) hA 1)
    have HS0 := hide hS0
    obtain ⟨y, hy⟩ : ∃ y, s.cols.getD z 0 = y := ⟨_, rfl⟩
    rw [hy] at c1 ⊢
    obtain ⟨m, hm⟩ : ∃ m, s.cols.length = m := ⟨_, rfl⟩
    rw [hm] at c0 hz hn
    have t1 : decide ((z : Int) < 0) = false := by simp
    have t2 : decide ((m : Int) ≤ (z : Int)) = false := by simp; omega
    have t3 : (0 : Int) ≤ (z : Int) := by omega
    have t4 : (z : Int) < (m : Int) := by omega
    dsimp only at HS0 x5 x6 HW HST ⊢
    rw [Int.toNat_natCast]
    clear hS0 hP hF hW hg hv x1 hA hwb hy hm
    by_cases hy0 : y = 0
    · subst hy0
      rw [if_pos (by simp)]
      go_enter Try.func100, Try.ntmps100
      go_wp2_with fail
      rw [HW.out, HGG.out]
      go_quiet (fail)
      go_wp2_with fail
      go_region_held3 (fun w' => w'.cell? ⟨Bs, 2, none⟩ = some (.slice (some ⟨gc, 0, none⟩) m s.cc) ∧ w'.cell? ⟨g, 1, none⟩ = some (.int .i64 (z : Int))) (go_keep) (fail)
      all_goals
        go_wp2_with fail
        go_end0
        exact ⟨⟨_, rfl⟩, HST.out _ ((HS0.out.drewN _).drew)⟩
    · have y1 : (y == 0) = false := by simp [hy0]
      rw [if_neg (by simp [hy0])]
      clear hy0
      go_enter Try.func100, Try.ntmps100
      go_wp2_with fail
      rw [HW.out, HGG.out]
      go_quiet (fail)
      go_wp2_with fail
      go_end0
      exact ⟨⟨_, rfl⟩, (HS0.out.drewN _).sub (List.sublist_append_left [_] [_])⟩
end Go.Proofs.Ytjphckfbbiehdaa
