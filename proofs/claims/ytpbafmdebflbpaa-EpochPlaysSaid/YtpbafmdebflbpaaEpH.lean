/- epoch: slices.Repeat of one element, at most four times. -/
import Derived.Test.YtpbafmdebflbpaaEpE
import Derived.Test.YtpbafmdebflbpaaSepCut
import Derived.Laws.CopyOwn
namespace Go.Proofs.Ytpbafmdebflbpaa
open Go.RowKit

set_option maxHeartbeats 1600000 in
theorem emul64 (w : World) (N : Nat) (h1 : N = 1 ∨ N = 2 ∨ N = 3 ∨ N = 4) :
    Calls Try.prog 123 #[.int .u64 1, .int .u64 N] w fun e w' => e = .returned (.tuple #[.int .u64 0, .int .u64 N]) ∧ w' = w := by
  rcases h1 with rfl | rfl | rfl | rfl
  all_goals
    go_enter Try.func123, Try.ntmps123
    go_wp2_with fail
    refine bodyPost_ret (v := .tuple #[.int .u64 0, _]) (by simp [results, Try.results123, go_sem]; rfl) rfl ⟨rfl, rfl⟩

set_option maxHeartbeats 1600000 in
theorem emul_any (w : World) (N : Nat) (h1 : N = 1 ∨ N = 2 ∨ N = 3 ∨ N = 4) :
    Calls Try.prog 103 #[.int .u64 1, .int .u64 N] w fun e w' => e = .returned (.tuple #[.int .u64 0, .int .u64 N]) ∧ w' = w := by
  go_enter Try.func103, Try.ntmps103
  go_wp2_with fail
  refine (emul64 w N h1).mono ?_
  rintro e w1 ⟨rfl, rfl⟩
  go_wp2_with fail
  refine bodyPost_ret (v := .tuple #[.int .u64 0, .int .u64 N]) (by simp [results, Try.results103, go_sem]) rfl ⟨rfl, rfl⟩

theorem rowI_of_blk {F : Nat → Prop} {W w : World} {items : List Item} (h : Sep F W w items) (k : Nat) {g t n : Nat} {cs : Array Value} (hk : items[k]? = some (blkI g t cs)) (hn : cs.size = n) (hm : n ≤ 1000) :
    Sep F W w (items.set k (rowI t 1 (some ⟨g, 0, none⟩) n n cs.toList)) :=
  h.step k hk (Chg.refl _ w) _ ⟨by simp [hn], .inr ⟨g, n, cs, rfl, Nat.zero_le _, h.get k hk, Nat.le_refl _, by simp only [maxLen]; omega, by omega, by rw [List.take_of_length_le (by simp [hn])]⟩⟩ (fun g' hg => .inl (by
    have : g = g' := by simpa [rowI, Value.ownBlock] using hg
    exact this.symm))
theorem blk_of_row {w : World} {base g t n : Nat} {xs : List Value} (h : w.ownsRow base t 1 (.slice (some ⟨g, 0, none⟩) n n) n xs) : Blk w g t xs.toArray := by
  obtain ⟨h1, h2⟩ := h
  rcases h2 with ⟨h0, _⟩ | ⟨g', cap', cur, hv, hg, hh, hn, hcap, hsz, htake⟩
  · cases h0
  · cases hv
    have : xs.toArray = cur := by
      rw [← htake, List.take_of_length_le (by simp [hsz])]
    rw [this]; exact hh

theorem ezInt : (Try.prog.info? 3).map (fun i => (i.zero, i.size, i.bytes)) = some (some (.int .i64 0), 1, 8) := by kernel_rfl
theorem ezInt1 : (Try.prog.info? 3).map (·.size) = some 1 := by kernel_rfl
theorem emadeInts (n : Nat) : (madeCells (Value.cells (.int .i64 0)) (n * 1)).toList = ints (List.replicate n 0) := by
  apply List.ext_getElem
  · simp [madeCells, ints]
  · intro i h1 h2
    simp [madeCells, Value.cells, ints, Nat.mod_one]
def erow (N i : Nat) : List Value := ints (List.replicate i (-1) ++ List.replicate (N - i) 0)

theorem erow_length (N i : Nat) (h : i ≤ N) : (erow N i).length = N := by
  simp [erow, ints]; omega
theorem erow_at (N i j m : Nat) (hm : m ≤ i) (v : Value) (hv : (ints (List.replicate m (-1)))[j]? = some v) : (erow N i)[j]? = some v := by
  have hj : j < m := by
    have := (List.getElem?_eq_some_iff.1 hv).1
    simpa [ints] using this
  rw [← hv]
  have hj2 : j < i := by omega
  simp [erow, ints, List.getElem?_append, List.getElem?_replicate, hj, hj2]

theorem erow_next (N i m : Nat) (h : i + m ≤ N) : (erow N i).toArray.toList.take i ++ (ints (List.replicate m (-1)) ++ (erow N i).toArray.toList.drop (i + m)) = erow N (i + m) := by
  obtain ⟨r, rfl⟩ : ∃ r, N = i + m + r := ⟨N - (i + m), by omega⟩
  have e1 : i + m + r - i = m + r := by omega
  have e2 : i + m + r - (i + m) = r := by omega
  unfold erow ints
  rw [e1, e2, List.map_append, List.map_append, List.map_replicate, List.map_replicate, List.map_replicate, List.map_replicate, List.map_replicate]
  simp [List.drop_append]
  rw [← List.append_assoc, List.replicate_append_replicate]
set_option maxHeartbeats 1600000 in
set_option maxRecDepth 100000 in
theorem erepeat (w : World) (N g0 : Nat) (h1 : 1 ≤ N) (h4 : N ≤ 4) (h : Blk w g0 3 #[.int .i64 (-1)]) :
    Calls Try.prog 70 #[.slice (some ⟨g0, 0, none⟩) 1 1, .int .i64 N] w fun e w' => ∃ A c, e = .returned (.slice A N c) ∧ Sep No w w' [rowI 3 1 A N c (ints (List.replicate N (-1)))] := by
  have C := hide (emul_any w N (by omega))
  go_enter Try.func70, Try.ntmps70
  go_wp2_with fail
  refine C.out.mono ?_
  rintro e w0 ⟨rfl, rfl⟩
  have hN : decide ((9223372036854775807 : Int) < N) = false := by simp; omega
  go_wp2_with (first
    | (refine wpList_make rfl (.tmp 29) (.tmp 29) 40 rfl (Sep.nil No w0) Try.underlying40 ezInt (by omega) .i64 .i64 N rfl rfl (by omega) ?_
       intro w1 hS1 hb1
       rw [emadeInts] at hS1
       (have hB1 : Blk w1 w0.heap.size 3 (ints (List.replicate N 0)).toArray := blk_of_row (base := 0) (n := N) (hS1.get 0 rfl))
       have hG1 := h.below_ hb1)
    | (refine wpList_copy_splice rfl (.tmp 31) (.tmp 32) 40 40 rfl 3 Try.underlying40 ezInt1 (some ⟨w0.heap.size, 0, none⟩) (some ⟨g0, 0, none⟩) N N 1 1 rfl rfl w0.heap.size 0 (ints (List.replicate N 0)) 3 hB1 [.int .i64 (-1)] (by simp [Nat.min_eq_left h1]) (fun _ => ⟨rfl, _, rfl, fun j v hv => by
          rcases j with _ | j
          · simp at hv; subst hv; rw [addr0, hG1.cell]; rfl
          · simp at hv⟩) (by simp [ints]; omega) (by simp [Value.oneCell']) w0.heap.size w0 hb1 (Nat.le_refl _) ?_
       intro w2 hg2 hb2))
  have hB2 : Blk w2 w0.heap.size 3 (erow N 1).toArray := by
    have e : splice (ints (List.replicate N 0)) 0 [.int .i64 (-1)] = erow N 1 := by
      obtain ⟨m, rfl⟩ : ∃ m, N = m + 1 := ⟨N - 1, by omega⟩
      simp [splice, erow, ints, List.replicate_succ]
    rw [← e]; exact hg2.out
  clear hg2 hG1 hB1 hb1 hS1 C
  go_loopw [8] (fun v wr => ∃ i : Nat, 1 ≤ i ∧ i ≤ N ∧ v = .int .i64 i ∧ Blk wr w0.heap.size 3 (erow N i).toArray ∧ Below w0.heap.size w0 wr) (fun v _ => N - (intOf v).toNat)
  case atStart => exact ⟨1, by omega, by omega, rfl, hB2, hb2⟩
  case round =>
    obtain ⟨i, hi1, hi2, rfl, hB, hb⟩ := hrel
    clear hB2 hb2
    by_cases hlt : i < N
    · obtain ⟨m, hm⟩ : ∃ m, m = Nat.min i (N - i) := ⟨_, rfl⟩
      have hm1 : 1 ≤ m := by rw [hm]; exact Nat.le_min.2 ⟨hi1, by omega⟩
      have hm2 : m ≤ i := by rw [hm]; exact Nat.min_le_left _ _
      have hm3 : m ≤ N - i := by rw [hm]; exact Nat.min_le_right _ _
      have hat : ∀ j v, (ints (List.replicate m (-1)))[j]? = some v → wr.drew.cell? ((⟨w0.heap.size, 0, none⟩ : Addr).add j) = some v := by
        intro j v hv
        rw [addr0, hB.drew.cell]
        simpa using erow_at N i j m hm2 v hv
      have hni : ¬ N = i := by omega
      have hrun := run_copy_row (P := Try.prog) (w := wr.drew) 40 40 3 3 w0.heap.size i (N - i) (N - i) ⟨w0.heap.size, 0, none⟩ i N (erow N i).toArray 3 (ints (List.replicate m (-1))) Try.underlying40 ezInt1 hB.drew (by simpa [ints] using hm) hat (by
        show _ ≤ (erow N i).toArray.size
        rw [List.size_toArray, erow_length _ _ hi2]; simp [ints]; omega) (by intro v hv; simp [ints] at hv; rw [hv.2]; rfl)
      have hlen : (ints (List.replicate m (-1))).length = m := by simp [ints]
      rw [hlen, List.append_assoc, show goInt (m : Int) = .int .i64 m from rfl] at hrun
      have hg3 := setRow_heap wr.drew w0.heap.size _ ((erow N i).toArray.toList.take i ++ (ints (List.replicate m (-1)) ++ (erow N i).toArray.toList.drop (i + m))).toArray 3 _ hB.drew
      have hb3 := below_setRow (g := w0.heap.size) hb.drew (Nat.le_refl _) ((erow N i).toArray.toList.take i ++ (ints (List.replicate m (-1)) ++ (erow N i).toArray.toList.drop (i + m))).toArray
      obtain ⟨w3, hw3⟩ : ∃ w3, w3 = wr.drew.setRow w0.heap.size ((erow N i).toArray.toList.take i ++ (ints (List.replicate m (-1)) ++ (erow N i).toArray.toList.drop (i + m))).toArray := ⟨_, rfl⟩
      rw [← hw3] at hrun hg3 hb3
      have hB3 : Blk w3 w0.heap.size 3 (erow N (i + m)).toArray := by
        have e : (erow N i).toArray.toList.take i ++ (ints (List.replicate m (-1)) ++ (erow N i).toArray.toList.drop (i + m)) = erow N (i + m) := by
          exact erow_next N i m (by omega)
        rw [← e]; exact hg3
      have HB3 := hide hB3
      have HBb3 := hide hb3
      clear hat hm hB hb hg3 hb3 hw3 hB3 hlen
      go_wp2_with fail
      go_region_law (fail)
      all_goals
        go_simp
        have hw : IntKind.i64.wrap ((i : Int) + m) = ((i + m : Nat) : Int) := by
          simp only [IntKind.wrap, IntKind.bits, IntKind.signed]
          go_num
        rw [hw]
        go_roundw
        case rel => exact ⟨_, _, _, _, _, _, _, _, _, _, _, _, _, _, ⟨i + m, by omega, by omega, rfl, HB3.out, HBb3.out⟩, rfl⟩
        case measure => simp [intOf]; omega
    · obtain rfl : i = N := by omega
      go_wp2_with fail
      go_ret
      refine ⟨_, _, rfl, ?_⟩
      have e : erow i i = ints (List.replicate i (-1)) := by simp [erow]
      rw [e] at hB
      have hS := (Sep.nil No w0).consNew (w' := wr) hb (blkI w0.heap.size 3 (ints (List.replicate i (-1))).toArray) hB (fun g hg => by rw [show g = w0.heap.size from hg]; exact Nat.le_refl _)
      exact rowI_of_blk (n := i) hS 0 rfl (by simp [ints]) (by omega)
end Go.Proofs.Ytpbafmdebflbpaa
