/- A machine's first registers, on. A memory with young and old objects: a script that may not be. A memory with colours, plain: each deed leaves it as it may be. -/
import Derived.Test.YtjphckfbbiehdaaSGenPlays29
import Derived.Laws.Rows
import Derived.Laws.Tables
import Derived.Test.YtjphckfbbiehdaaSGenPlays13
set_option linter.unusedSimpArgs false
set_option linter.unusedVariables false
namespace Go.Proofs.Ytjphckfbbiehdaa
open Go.RowKit
theorem first_cells (nR : Nat) (roots : List Val) (hl : roots.length = nR) (h8 : nR ≤ 8) : ((vals (zeroVs 8)).toArray.toList.take 0 ++ vals roots ++ (vals (zeroVs 8)).toArray.toList.drop (0 + (vals roots).length)) = vals (padR roots nR) := by
  rw [vals_length, hl, Nat.zero_add]
  unfold padR
  rw [List.take_zero, List.nil_append, List.take_of_length_le (by omega), vals_app, ← vals_rep nR h8]
theorem padR_zero (l : List Val) (h : l.length = 0) : padR l 0 = zeroVs 8 := by
  cases l with
  | nil => rfl
  | cons a l => simp at h
set_option maxRecDepth 100000 in
set_option maxHeartbeats 8000000 in
theorem heapFirst_any (w : World) (AO AR : Option Addr) (nO cO nR cR : Nat) (roots : List Val) (hR : Rd w (fun _ => True) 2 AR nR (vals roots)) (hnR : nR ≤ 8) :
    Calls Try.prog 72 #[.agg #[.slice AO nO cO, .slice AR nR cR]] w fun e w' => e = .returned (.agg (vals (padR roots nR)).toArray) ∧ Below w.heap.size w w' := by
  have hrl : roots.length = nR := by have := hR.1; rw [vals_length] at this; omega
  obtain ⟨g, hg⟩ : ∃ g, w.heap.size = g := ⟨_, rfl⟩
  have hmx : Try.prog.follows .mixedOrders = true := by kernel_rfl
  have hS0 := (((Sep.nil No w).blkAt 27 #[.slice AO nO cO, .slice AR nR cR] hg).blkAt 109 (vals (zeroVs 8)).toArray (g := g + 1) (by simp [hg])).blkAt 109 (vals (zeroVs 8)).toArray (g := g + 1 + 1) (by simp [hg])
  have hlit : (vals (zeroVs 8)).toArray = #[.bool false, .int .i64 0, .bool false, .int .i64 0, .bool false, .int .i64 0, .bool false, .int .i64 0, .bool false, .int .i64 0, .bool false, .int .i64 0, .bool false, .int .i64 0, .bool false, .int .i64 0] := rfl
  rw [hlit] at hS0
  obtain ⟨W, hW⟩ : ∃ X, ((w.alloc (.cells #[.slice AO nO cO, .slice AR nR cR] 27)).alloc (.cells #[.bool false, .int .i64 0, .bool false, .int .i64 0, .bool false, .int .i64 0, .bool false, .int .i64 0, .bool false, .int .i64 0, .bool false, .int .i64 0, .bool false, .int .i64 0, .bool false, .int .i64 0] 109)).alloc (.cells #[.bool false, .int .i64 0, .bool false, .int .i64 0, .bool false, .int .i64 0, .bool false, .int .i64 0, .bool false, .int .i64 0, .bool false, .int .i64 0, .bool false, .int .i64 0, .bool false, .int .i64 0] 109) = X := ⟨_, rfl⟩
  rw [hW] at hS0
  have hb := hS0.below_
  obtain ⟨a1, _, a3, _⟩ := hS0.rules 0 (g := g) (t := 27) rfl
  have a5 := (a1 1).trans (show _ = some (.slice AR nR cR) from rfl)
  obtain ⟨W', hcp, hS2⟩ : ∃ W', (Builtin.copy_ #[25, 25] 3 #[.slice (some ⟨g + 1 + 1, 0, none⟩) 8 8, .slice AR nR cR]).run Try.prog W.drew = .ok (goInt nR) W' ∧ Sep No w W' [blkI g 27 #[.slice AO nO cO, .slice AR nR cR], blkI (g + 1) 109 (vals (zeroVs 8)).toArray, blkI (g + 1 + 1) 109 (vals (padR roots nR)).toArray] := by
    rw [← hlit] at hS0
    rcases Nat.eq_zero_or_pos nR with h0 | h0
    · subst h0
      refine ⟨W.drew, run_copy_noneN W.drew 25 25 3 107 2 8 8 cR _ AR Try.underlying25 vSize, ?_⟩
      rw [padR_zero roots hrl]
      exact hS0.drew
    · obtain ⟨ad, hA, _, _, hc⟩ := (hR.below hb).2 h0
      subst hA
      have hB : Blk W (g + 1 + 1) 109 (vals (zeroVs 8)).toArray := hS0.get 2 rfl
      have hvl := vals_length roots
      have hz : (vals (zeroVs 8)).length = 16 := vals_length _
      have hrun := run_copy_rowN (P := Try.prog) W.drew 25 25 3 107 2 nR (g + 1 + 1) 0 8 8 ad nR cR (vals (zeroVs 8)).toArray 109 (vals roots) Try.underlying25 vSize hB (Nat.min_eq_left hnR) (by omega) hc (by rw [List.size_toArray]; omega) (fun v hv => by
        unfold vals at hv
        obtain ⟨x, _, hx⟩ := List.mem_flatMap.1 hv
        rcases List.mem_cons.1 hx with rfl | hx
        · rfl
        · rw [List.mem_singleton.1 hx]; rfl)
      rw [first_cells nR roots hrl hnR] at hrun
      refine ⟨_, hrun, ?_⟩
      have hst := hS0.drew.step 2 rfl (w' := W.drew.setRow (g + 1 + 1) (vals (padR roots nR)).toArray) ⟨rfl, rfl, rfl, by simp [World.setRow], fun k _ hk => setRow_other _ _ _ _ (fun e => hk e)⟩ (blkI (g + 1 + 1) 109 (vals (padR roots nR)).toArray) (setRow_heap _ _ _ _ _ _ hB) (fun _ h => .inl h)
      exact hst
  have hpl := padR_len roots nR (by omega) hnR
  have hi16 : (Try.prog.info? 109).map (·.size) = some 16 := by kernel_rfl
  have hcs : (vals (padR roots nR)).toArray.size = 16 := by rw [List.size_toArray, vals_length, hpl]
  have hone : (vals (padR roots nR)).toArray.all (·.oneCell') = true := by
    rw [List.all_toArray]
    unfold vals
    rw [List.all_flatMap]
    simp [Value.oneCell']
  obtain ⟨CS, hCS⟩ : ∃ c, (vals (padR roots nR)).toArray = c := ⟨_, rfl⟩
  rw [hCS] at hS2 hcs hone ⊢
  have hB1 : Blk W' (g + 1) 109 (vals (zeroVs 8)).toArray := hS2.get 1 rfl
  have hB2 : Blk W' (g + 1 + 1) 109 CS := hS2.get 2 rfl
  have hZ : (vals (zeroVs 8)).toArray.size = CS.size := by rw [hcs]; rfl
  rw [← hcs] at hi16
  have HB1 := hide hB1
  have HB2 := hide hB2
  have HS2 := hide hS2
  have HI := hide hi16
  have HZ := hide hZ
  have HO := hide hone
  clear hS0 hb hS2 a1 hpl hB1 hB2 hcs hi16 hZ hone hCS hR hrl
  go_enter Try.func72, Try.ntmps72
  go_wp2_with fail
  clear hW
  go_still_tail 3, hmx
  go_wp2_with (first
    | (refine wpList_load_row rfl 109 (.tmp 3) rfl (g + 1 + 1) rfl 109 CS (0, 0) _ HB2.out Try.underlying109 rfl HI.out ?_)
    | (refine wpList_store_row rfl 109 (.tmp 2) (.tmp 8) rfl (g + 1) CS rfl rfl 109 (vals (zeroVs 8)).toArray HB1.out HI.out HZ.out HO.out ?_))
  have hF := setRow_heap W' (g + 1) _ CS _ _ HB1.out
  have hb2 : Below w.heap.size w (W'.setRow (g + 1) CS) := below_setRow HS2.out.below_ (by omega) CS
  refine bodyPost_ret (v := .agg CS) (results_cell_row Try.results72 _ _ (g + 1) 109 CS (0, 0) _ rfl hF Try.underlying109 rfl HI.out) rfl ⟨rfl, hb2⟩
end Go.Proofs.Ytjphckfbbiehdaa

namespace Go.Proofs.Ytjphckfbbiehdaa
open Go.RowKit
def genErr (nO nR nd : Nat) (obs : List Ob) (roots : List Val) (R : Int) : Int := if gcheck nO nR obs roots ≠ 0 then gcheck nO nR obs roots else if R < 1 ∨ 64 < R then 3 else if 100 < nd then 1 else 0
set_option maxRecDepth 100000 in
set_option maxHeartbeats 8000000 in
theorem genPlay_no (w : World) (AO AR Ad : Option Addr) (nO cO nR cR nd cd : Nat) (obs : List Ob) (roots : List Val) (R : Int) (hO : ObsRd w (fun _ => True) AO nO obs) (hR : Rd w (fun _ => True) 2 AR nR (vals roots)) (hz : genErr nO nR nd obs roots R ≠ 0) :
    Calls Try.prog 38 #[.agg #[.slice AO nO cO, .slice AR nR cR], .int .i64 R, .slice Ad nd cd] w fun e w' => e = .returned (.tuple #[.agg #[.slice none 0 0, .slice none 0 0, .slice none 0 0], .int .i64 (genErr nO nR nd obs roots R)]) ∧ Below w.heap.size w w' := by
  obtain ⟨g, hg⟩ : ∃ g, w.heap.size = g := ⟨_, rfl⟩
  have hS0 := ((Sep.nil No w).blkAt 27 #[.slice AO nO cO, .slice AR nR cR] hg).blkAt 90 #[.slice none 0 0, .slice none 0 0, .slice none 0 0] (g := g + 1) (by simp [hg])
  have C1 := hide (graphCheck_any _ AO AR nO cO nR cR obs roots (hO.below hS0.below_) (hR.below hS0.below_))
  obtain ⟨a1, a2, a3, a4⟩ := hS0.rules 0 (g := g) (t := 27) rfl
  have HS0 := hide hS0
  unfold genErr at hz ⊢
  obtain ⟨x, hx⟩ : ∃ x, gcheck nO nR obs roots = x := ⟨_, rfl⟩
  rw [hx] at C1 hz ⊢
  clear hS0 a4 hO hR hx
  by_cases h0 : x = 0
  · subst h0
    rw [if_neg (by simp)] at hz ⊢
    by_cases hb : R < 1 ∨ 64 < R
    · rw [if_pos hb]
      by_cases hb1 : R < 1
      · have t1 : decide (R < 1) = true := by simp [hb1]
        clear hz hb hb1
        go_enter Try.func38, Try.ntmps38
        go_wp2_with fail
        refine C1.out.mono ?_
        rintro e w1 ⟨rfl, hb1⟩
        have hS2 := HS0.out.below hb1
        obtain ⟨x1, x2, x3, x4⟩ := hS2.rules 1 (g := g + 1) (t := 90) rfl
        have HS2 := hide hS2
        clear hb1 hS2 HS0 C1 a1 a2 a3 x4
        go_wp2_with fail
        have hF := ((HS2.out.set_ 1 (g := g + 1) (t := 90) rfl 0 (.slice none 0 0)).set_ 1 (g := g + 1) (t := 90) rfl 1 (.slice none 0 0)).set_ 1 (g := g + 1) (t := 90) rfl 2 (.slice none 0 0)
        refine bodyPost_ret (v := .tuple #[.agg #[.slice none 0 0, .slice none 0 0, .slice none 0 0], .int .i64 3]) (by simp [results, Try.results38, go_sem, x1]) rfl ⟨rfl, hF.below_⟩
      · have t1 : decide (R < 1) = false := by simp only [hb1, decide_false]
        have t2 : decide (64 < R) = true := by simp; omega
        clear hz hb hb1
        go_enter Try.func38, Try.ntmps38
        go_wp2_with fail
        refine C1.out.mono ?_
        rintro e w1 ⟨rfl, hb1⟩
        have hS2 := HS0.out.below hb1
        obtain ⟨x1, x2, x3, x4⟩ := hS2.rules 1 (g := g + 1) (t := 90) rfl
        have HS2 := hide hS2
        clear hb1 hS2 HS0 C1 a1 a2 a3 x4
        go_wp2_with fail
        have hF := ((HS2.out.set_ 1 (g := g + 1) (t := 90) rfl 0 (.slice none 0 0)).set_ 1 (g := g + 1) (t := 90) rfl 1 (.slice none 0 0)).set_ 1 (g := g + 1) (t := 90) rfl 2 (.slice none 0 0)
        refine bodyPost_ret (v := .tuple #[.agg #[.slice none 0 0, .slice none 0 0, .slice none 0 0], .int .i64 3]) (by simp [results, Try.results38, go_sem, x1]) rfl ⟨rfl, hF.below_⟩
    · rw [if_neg hb] at hz ⊢
      have hnd : 100 < nd := by
        split at hz
        · assumption
        · omega
      rw [if_pos hnd]
      have t1 : decide (R < 1) = false := by simp; omega
      have t2 : decide (64 < R) = false := by simp; omega
      have t3 : decide ((100 : Int) < (nd : Int)) = true := by simp; omega
      have t4 : decide (100 < nd) = true := by simp; omega
      clear hz hb
      go_enter Try.func38, Try.ntmps38
      go_wp2_with fail
      refine C1.out.mono ?_
      rintro e w1 ⟨rfl, hb1⟩
      have hS2 := HS0.out.below hb1
      obtain ⟨x1, x2, x3, x4⟩ := hS2.rules 1 (g := g + 1) (t := 90) rfl
      have HS2 := hide hS2
      clear hb1 hS2 HS0 C1 a1 a2 a3 x4
      go_wp2_with fail
      have hF := ((HS2.out.set_ 1 (g := g + 1) (t := 90) rfl 0 (.slice none 0 0)).set_ 1 (g := g + 1) (t := 90) rfl 1 (.slice none 0 0)).set_ 1 (g := g + 1) (t := 90) rfl 2 (.slice none 0 0)
      refine bodyPost_ret (v := .tuple #[.agg #[.slice none 0 0, .slice none 0 0, .slice none 0 0], .int .i64 1]) (by simp [results, Try.results38, go_sem, x1]) rfl ⟨rfl, hF.below_⟩
  · rw [if_pos h0]
    have t1 : decide (x = 0) = false := by simp [h0]
    have t2 : (x == 0) = false := by simp [h0]
    have t3 : (x != 0) = true := by simp [h0]
    clear hz
    go_enter Try.func38, Try.ntmps38
    go_wp2_with fail
    refine C1.out.mono ?_
    rintro e w1 ⟨rfl, hb1⟩
    have hS2 := HS0.out.below hb1
    obtain ⟨x1, x2, x3, x4⟩ := hS2.rules 1 (g := g + 1) (t := 90) rfl
    have HS2 := hide hS2
    clear hb1 hS2 HS0 C1 a1 a2 a3 x4
    go_wp2_with fail
    have hF := ((HS2.out.set_ 1 (g := g + 1) (t := 90) rfl 0 (.slice none 0 0)).set_ 1 (g := g + 1) (t := 90) rfl 1 (.slice none 0 0)).set_ 1 (g := g + 1) (t := 90) rfl 2 (.slice none 0 0)
    refine bodyPost_ret (v := .tuple #[.agg #[.slice none 0 0, .slice none 0 0, .slice none 0 0], .int .i64 x]) (by simp [results, Try.results38, go_sem, x1]) rfl ⟨rfl, hF.below_⟩
end Go.Proofs.Ytjphckfbbiehdaa

namespace Go.Proofs.Ytjphckfbbiehdaa
open Go.RowKit
theorem CoNG.regs {a : CoA} {j : Nat} (h : CoNG a j) (rs : List Val) : CoNG { a with regs := rs } j :=
  CoNG.keep (a := a) (a' := { a with regs := rs }) (fun _ _ _ h0 => .inl h0) (fun _ _ _ h1 => .inl h1) (fun i fs j h1 h2 _ => ⟨fs, h1, h2⟩) (fun _ h => h) h
theorem CoOk.setr {a : CoA} (ok : CoOk a) (r : Nat) {v : Val} (hv : a.vok v) : CoOk { a with regs := a.regs.set r v } :=
  ⟨by simp [ok.r8], ok.cl, ok.n, fun u hu => by
    rcases mem_set_ hu with h | rfl
    · exact ok.vr u h
    · exact hv, ok.vf, ok.f4⟩
theorem CoInv.setr {k : Nat} {a : CoA} (h : CoInv k a) (r : Nat) {v : Val} (hv : k = 3 → ∀ j : Nat, v = (true, (j : Int)) → CoNG a j) : CoInv k { a with regs := a.regs.set r v } :=
  ⟨h.rng, h.bs, fun hk j hj => by
    rcases mem_set_ hj with h1 | h1
    · exact (h.rg hk j h1).regs _
    · exact (hv hk j h1.symm).regs _, fun hk i j fs h1 h2 h3 => (h.by_ hk i j fs h1 h2 h3).regs _⟩
theorem CoOk.rg {a : CoA} (ok : CoOk a) (r : Int) : a.vok (rgA a.regs r) := by
  unfold rgA
  rcases getD_mem_or a.regs r.toNat (false, 0) with h2 | h2
  · exact ok.vr _ h2
  · rw [h2]; intro h1; cases h1
theorem CoInv.rgN {k : Nat} {a : CoA} (h : CoInv k a) (hk : k = 3) (r : Int) (j : Nat) (e : rgA a.regs r = (true, (j : Int))) : CoNG a j := by
  unfold rgA at e
  rcases getD_mem_or a.regs r.toNat (false, 0) with h2 | h2
  · exact h.rg hk j (e ▸ h2)
  · rw [e] at h2; cases h2
/-- A field's value. -/
theorem CoOk.getv {a : CoA} (ok : CoOk a) (i k : Nat) : a.vok (((a.fld i).getD []).getD k (false, 0)) := by
  rcases getD_mem_or ((a.fld i).getD []) k (false, 0) with h2 | h2
  · cases hf : a.fld i with
    | none => rw [hf] at h2; simp at h2
    | some fs => rw [hf] at h2; exact ok.vf i fs _ hf h2
  · rw [h2]; intro h1; cases h1
theorem CoInv.getv {k : Nat} {a : CoA} (h : CoInv k a) (hk : k = 3) {i at_ j : Nat} (hi : CoNG a i) (e : ((a.fld i).getD []).getD at_ (false, 0) = (true, (j : Int))) : CoNG a j := by
  rcases getD_mem_or ((a.fld i).getD []) at_ (false, 0) with h2 | h2
  · cases hf : a.fld i with
    | none => rw [hf] at h2; simp at h2
    | some fs =>
      rw [e, hf] at h2
      replace h2 : (true, (j : Int)) ∈ fs := h2
      by_cases hj : a.cols.getD j 0 = 0
      · rcases h.rng i with h1 | h1 | h1
        · rcases hi with h3 | h3
          · exact absurd h1 h3
          · exact .inr (.step h3 hf h2 hj)
        · exact .inr (.grey h1 hf h2 hj)
        · exact h.by_ hk i j fs hf h1 h2
      · exact .inl hj
  · rw [e] at h2; cases h2
theorem CoA.vok_lt {a : CoA} {j : Nat} (h : a.vok (true, (j : Int))) : j < a.objs.length := by
  obtain ⟨i, fs, e, hf⟩ := h rfl
  have := (CoA.fld_at hf).2
  dsimp only at e
  omega
theorem getD_app (l : List Int) (y : Int) (j : Nat) : (l ++ [y]).getD j 0 = if j = l.length then y else l.getD j 0 := by
  rw [List.getD_eq_getElem?_getD, List.getD_eq_getElem?_getD]
  rcases Nat.lt_trichotomy j l.length with h | h | h
  · rw [List.getElem?_append_left h, if_neg (by omega)]
  · subst h; simp
  · rw [if_neg (by omega), List.getElem?_eq_none (by simp; omega), List.getElem?_eq_none (by omega)]
theorem coNew_inv {k : Nat} {a : CoA} (ok : CoOk a) (h : CoInv k a) (n : Nat) : CoInv k (coNew a n).1 ∧ ((coNew a n).2.2 = 0 → k = 3 → ∀ j : Nat, ((true, (coNew a n).2.1) : Val) = (true, (j : Int)) → CoNG (coNew a n).1 j) ∧ (coNew a n).1.objs.length ≤ a.objs.length + 1 := by
  unfold coNew
  split
  · exact ⟨h, fun h => (by cases h), Nat.le_succ _⟩
  · dsimp only
    obtain ⟨a', ha'⟩ : ∃ x, x = (⟨a.regs, a.objs ++ [some (zeroVs n)], a.cols ++ [2], a.gone⟩ : CoA) := ⟨_, rfl⟩
    have hcl := ok.cl
    have hcg : ∀ j, a'.cols.getD j 0 = if j = a.objs.length then 2 else a.cols.getD j 0 := fun j => by rw [ha']; dsimp only; rw [getD_app, hcl]
    have hfo : ∀ i fs, a.fld i = some fs → a'.fld i = some fs := fun i fs h => by
      obtain ⟨h1, h2⟩ := CoA.fld_at h
      rw [ha']
      unfold CoA.fld
      dsimp only
      rw [List.getElem?_append_left h2, h1]; rfl
    have hfn : ∀ i fs, a'.fld i = some fs → a.fld i = some fs ∨ (i = a.objs.length ∧ fs = zeroVs n) := fun i fs h => by
      obtain ⟨h1, h2⟩ := CoA.fld_at h
      rw [ha'] at h1 h2
      dsimp only at h1 h2
      rcases Nat.lt_or_ge i a.objs.length with hlt | hge
      · rw [List.getElem?_append_left hlt] at h1
        exact .inl (by unfold CoA.fld; rw [h1]; rfl)
      · have hi : i = a.objs.length := by rw [List.length_append] at h2; simp at h2; omega
        subst hi
        simp at h1
        exact .inr ⟨rfl, h1.symm⟩
    have hlt : ∀ i fs, a.fld i = some fs → a'.cols.getD i 0 = a.cols.getD i 0 := fun i fs hf => by
      have := (CoA.fld_at hf).2
      rw [hcg, if_neg (by omega)]
    have hkeep : ∀ j, CoNG a j → CoNG a' j := fun j hj => CoNG.keep (a := a) (a' := a')
      (fun i fs hf h0 => .inl ((hlt i fs hf).trans h0))
      (fun i fs hf h1 => .inl ((hlt i fs hf).trans h1))
      (fun i fs j h1 h2 _ => ⟨fs, hfo i fs h1, h2⟩)
      (fun j h1 h2 => by
        rw [hcg] at h2
        split at h2
        · cases h2
        · exact h1 h2) hj
    have hz : ∀ j : Nat, (true, (j : Int)) ∉ zeroVs n := fun j hj => by
      obtain ⟨_, e⟩ := List.mem_replicate.1 hj
      cases e
    rw [← ha']
    refine ⟨⟨fun i => ?_, fun hk i j fs hf h2 hj h0 => ?_, fun hk j hj => hkeep j (h.rg hk j (by rw [ha'] at hj; exact hj)), fun hk i j fs hf h2 hj => ?_⟩, fun _ _ j e => ?_, by simp⟩
    · rw [hcg]
      split
      · exact .inr (.inr rfl)
      · exact h.rng i
    · rcases hfn i fs hf with h1 | ⟨_, rfl⟩
      · rw [hlt i fs h1] at h2
        have hjl := CoA.vok_lt (ok.vf i fs _ h1 hj)
        rw [hcg, if_neg (by omega)] at h0
        exact h.bs hk i j fs h1 h2 hj h0
      · exact hz j hj
    · rcases hfn i fs hf with h1 | ⟨_, rfl⟩
      · rw [hlt i fs h1] at h2
        exact hkeep j (h.by_ hk i j fs h1 h2 hj)
      · exact absurd hj (hz j)
    · have hj : j = a.objs.length := by injection e with _ e; omega
      left
      rw [hcg, if_pos hj]; decide
/-- A field becomes a value. -/
def coPut0 (a : CoA) (i k : Nat) (v : Val) (fs : List Val) : CoA := { a with objs := a.objs.set i (some (fs.set k v)) }
theorem coPut0_fld {a : CoA} {i k : Nat} {v : Val} {fs : List Val} (hf : a.fld i = some fs) (x : Nat) : (coPut0 a i k v fs).fld x = if x = i then some (fs.set k v) else a.fld x := by
  unfold coPut0 CoA.fld
  dsimp only
  rw [List.getElem?_set]
  by_cases e : i = x
  · subst e; rw [if_pos rfl, if_pos rfl, if_pos (CoA.fld_at hf).2]; rfl
  · rw [if_neg e, if_neg (fun h => e h.symm)]
theorem coPut0_ok {a : CoA} (ok : CoOk a) {i k : Nat} {v : Val} {fs : List Val} (hf : a.fld i = some fs) (hv : a.vok v) : CoOk (coPut0 a i k v fs) := by
  have hfl := coPut0_fld (k := k) (v := v) hf
  have hvk : ∀ u, a.vok u → (coPut0 a i k v fs).vok u := fun u hu h1 => by
    obtain ⟨x, fs', e, hx⟩ := hu h1
    by_cases hxi : x = i
    · exact ⟨x, _, e, by rw [hfl, if_pos hxi]⟩
    · exact ⟨x, fs', e, by rw [hfl, if_neg hxi]; exact hx⟩
  refine ⟨ok.r8, by unfold coPut0; dsimp only; rw [List.length_set]; exact ok.cl, by unfold coPut0; dsimp only; rw [List.length_set]; exact ok.n, fun u hu => hvk u (ok.vr u hu), fun x fs' u hx hu => ?_, fun x fs' hx => ?_⟩
  · rw [hfl] at hx
    split at hx
    · have e := Option.some.inj hx
      subst e
      rcases mem_set_ hu with h | rfl
      · exact hvk u (ok.vf i fs u hf h)
      · exact hvk u hv
    · exact hvk u (ok.vf x fs' u hx hu)
  · rw [hfl] at hx
    split at hx
    · have e := Option.some.inj hx
      subst e
      rw [List.length_set]; exact ok.f4 i fs hf
    · exact ok.f4 x fs' hx
theorem coPut0_inv {q : Nat} {a : CoA} (h : CoInv q a) {i k : Nat} {v : Val} {fs : List Val} (hf : a.fld i = some fs) (h1 : q ≠ 3 → a.cols.getD i 0 = 2 → ∀ j : Nat, v = (true, (j : Int)) → a.cols.getD j 0 ≠ 0)
    (h2 : q = 3 → ∀ j : Nat, v = (true, (j : Int)) → CoNG a j) (h3 : q = 3 → ∀ j : Nat, fs[k]? = some (true, (j : Int)) → a.cols.getD j 0 ≠ 0) : CoInv q (coPut0 a i k v fs) := by
  have hfl := coPut0_fld (k := k) (v := v) hf
  have hkeep : q = 3 → ∀ j, CoNG a j → CoNG (coPut0 a i k v fs) j := fun hq j hj => CoNG.keep (a := a) (a' := coPut0 a i k v fs) (fun _ _ _ h0 => .inl h0) (fun _ _ _ h1 => .inl h1)
    (fun x fs' j hx hj h0 => by
      by_cases hxi : x = i
      · subst hxi
        have e := Option.some.inj (hf.symm.trans hx)
        subst e
        refine ⟨_, by rw [hfl, if_pos rfl], ?_⟩
        obtain ⟨z, hz⟩ := List.mem_iff_getElem?.1 hj
        by_cases hzk : z = k
        · subst hzk; exact absurd h0 (h3 hq j hz)
        · refine List.mem_of_getElem? (i := z) ?_
          rw [List.getElem?_set, if_neg (fun e => hzk e.symm)]; exact hz
      · exact ⟨fs', by rw [hfl, if_neg hxi]; exact hx, hj⟩)
    (fun _ h => h) hj
  refine ⟨h.rng, fun hq x j fs' hx hc hj => ?_, fun hq j hj => hkeep hq j (h.rg hq j hj), fun hq x j fs' hx hc hj => ?_⟩
  · rw [hfl] at hx
    split at hx
    · rename_i e
      subst e
      have e := Option.some.inj hx
      subst e
      rcases mem_set_ hj with h4 | h4
      · exact h.bs hq x j fs hf hc h4
      · exact h1 hq hc j h4.symm
    · exact h.bs hq x j fs' hx hc hj
  · rw [hfl] at hx
    split at hx
    · rename_i e
      subst e
      have e := Option.some.inj hx
      subst e
      rcases mem_set_ hj with h4 | h4
      · exact hkeep hq j (h.by_ hq x j fs hf hc h4)
      · exact hkeep hq j (h2 hq j h4.symm)
    · exact hkeep hq j (h.by_ hq x j fs' hx hc hj)
theorem CoInv.grey_ {q : Nat} {a : CoA} (hq : q ≠ 3) (h : CoInv q a) (i : Nat) (hi : a.cols.getD i 0 = 2) : CoInv q { a with cols := a.cols.set i 1 } := by
  refine ⟨fun x => ?_, fun _ x j fs hf h2 hj h0 => ?_, fun hk => absurd hk hq, fun hk => absurd hk hq⟩
  · dsimp only
    rw [getD_set]
    split
    · exact .inr (.inl rfl)
    · exact h.rng x
  · dsimp only at h2 h0
    rw [getD_set] at h2 h0
    split at h2
    · cases h2
    · split at h0
      · cases h0
      · exact h.bs hq x j fs hf h2 hj h0
theorem barOf_f (q : Nat) : (barOf q).f = if q = 1 then barD else if q = 2 then barS else barY := by
  unfold barOf
  split
  · rfl
  · split <;> rfl
theorem coPut_ok {q : Nat} (hq : q = 1 ∨ q = 2 ∨ q = 3) {a : CoA} (ok : CoOk a) (h : CoInv q a) {i k : Nat} {v : Val} {fs : List Val} (hf : a.fld i = some fs) (hk : k < fs.length) (hv : a.vok v) (hvn : q = 3 → ∀ j : Nat, v = (true, (j : Int)) → CoNG a j) :
    CoOk (coPut (barOf q) a i k v) ∧ CoInv q (coPut (barOf q) a i k v) ∧ (coPut (barOf q) a i k v).objs.length = a.objs.length := by
  have hold : fs.getD k (false, 0) = fs[k] := by rw [List.getD_eq_getElem?_getD, List.getElem?_eq_getElem hk]; rfl
  have hlen := (barOf_ok q).len a.cols i fs[k] v
  have he : coPut (barOf q) a i k v = coPut0 { a with cols := (barOf q).f a.cols i fs[k] v } i k v fs := by
    unfold coPut coPut0
    rw [hf, Option.getD_some, hold]
  rw [he]
  have hf2 : ∀ c, ({ a with cols := c } : CoA).fld i = some fs := fun c => hf
  refine ⟨coPut0_ok (ok.cols hlen) (hf2 _) hv, ?_, by unfold coPut0; dsimp only; rw [List.length_set]⟩
  rw [barOf_f]
  have hvl : ∀ j : Nat, v = (true, (j : Int)) → j < a.cols.length := fun j e => by rw [ok.cl]; exact CoA.vok_lt (e ▸ hv)
  rcases hq with rfl | rfl | rfl
  · rw [if_pos rfl]
    refine coPut0_inv (h.shade1 v) (hf2 _) (fun _ _ j e => ?_) (fun h => by cases h) (fun h => by cases h)
    have h2 := shadeC_hit (cols := a.cols) (v := v) (by rw [e]) (by rw [e]; simpa using hvl j e)
    rw [e] at h2 ⊢
    simpa [barD] using h2
  · rw [if_neg (by decide), if_pos rfl]
    unfold barS
    by_cases hc : a.cols.getD i 0 = 2 ∧ whiteB a.cols v = true
    · rw [if_pos hc]
      refine coPut0_inv (h.grey_ (by decide) i hc.1) (hf2 _) (fun _ h2 j e => ?_) (fun h => by cases h) (fun h => by cases h)
      dsimp only at h2
      rw [getD_set] at h2
      split at h2
      · cases h2
      · rename_i h3
        exact absurd ⟨rfl, by rw [ok.cl]; exact (CoA.fld_at hf).2⟩ h3
    · rw [if_neg hc]
      refine coPut0_inv h (hf2 _) (fun _ h2 j e h0 => hc ⟨h2, ?_⟩) (fun h => by cases h) (fun h => by cases h)
      unfold whiteB
      rw [e]
      simpa using h0
  · rw [if_neg (by decide), if_neg (by decide)]
    refine coPut0_inv (h.shade1 fs[k]) (hf2 _) (fun h => absurd rfl h) (fun _ j e => (hvn rfl j e).shade1 _) (fun _ j e => ?_)
    have e2 : fs[k] = (true, (j : Int)) := by rw [List.getElem?_eq_getElem hk] at e; exact Option.some.inj e
    have hvo : a.vok (true, (j : Int)) := ok.vf i fs _ hf (e2 ▸ List.getElem_mem hk)
    have h2 := shadeC_hit (cols := a.cols) (v := (true, (j : Int))) rfl (by rw [ok.cl]; simpa using CoA.vok_lt hvo)
    rw [e2]
    simpa [barY] using h2
/-- What a field's deed wants. -/
theorem coErr_zero {a : CoA} (ok : CoOk a) {r at_ : Int} (hz : coErr a (rgA a.regs r) at_ = 0) :
    ∃ (i k : Nat) (fs : List Val), rgA a.regs r = (true, (i : Int)) ∧ at_ = (k : Int) ∧ a.fld i = some fs ∧ k < fs.length := by
  unfold coErr at hz
  split at hz
  · cases hz
  · rename_i h1
    split at hz
    · cases hz
    · rename_i h2
      have hb : (rgA a.regs r).1 = true := by simpa using h1
      obtain ⟨i, fs, e, hf⟩ := ok.rg r hb
      rw [e, Int.toNat_natCast, hf, Option.getD_some] at h2
      exact ⟨i, at_.toNat, fs, Prod.ext hb e, by omega, hf, by omega⟩
theorem not_ne {x : Int} (h : ¬ x ≠ 0) : x = 0 := by
  rcases Int.decEq x 0 with h1 | h1
  · exact absurd h1 h
  · exact h1
theorem coStep_ok {q : Nat} (hq : q = 1 ∨ q = 2 ∨ q = 3) {a : CoA} (ok : CoOk a) (hn : a.objs.length < 500) (h : CoInv q a) (d : DoV) : CoOk (coStep q d a).2 ∧ CoInv q (coStep q d a).2 ∧ (coStep q d a).2.objs.length ≤ a.objs.length + 1 := by
  unfold coStep
  by_cases h8 : d.k = 8
  · rw [if_pos h8]
    obtain ⟨h1, h2⟩ := coWork_ok ok h
    refine ⟨h1, h2, ?_⟩
    unfold coWork; split <;> exact Nat.le_succ _
  rw [if_neg h8]
  by_cases h9 : d.k = 9
  · rw [if_pos h9]
    obtain ⟨h1, h2, h3⟩ := coSweep_ok ok h
    exact ⟨h1, h2, by omega⟩
  rw [if_neg h9]
  unfold coDo
  by_cases hw : wrongM d ≠ 0
  · rw [if_pos hw]; exact ⟨ok, h, Nat.le_succ _⟩
  rw [if_neg hw]
  have hw0 : wrongM d = 0 := not_ne hw
  unfold coKst
  by_cases h1 : d.k = 1
  · rw [if_pos h1]
    obtain ⟨n0, n1⟩ := wrongM_n hw0 h1
    obtain ⟨o1, o2⟩ := coNew_ok ok hn d.n.toNat (by omega)
    obtain ⟨i1, i2, i3⟩ := coNew_inv ok h d.n.toNat
    by_cases hz : (coNew a d.n.toNat).2.2 ≠ 0
    · rw [if_pos hz]
      exact ⟨o1, i1, i3⟩
    · rw [if_neg hz]
      have hz0 := not_ne hz
      exact ⟨o1.setr _ (o2 hz0), i1.setr _ (i2 hz0), i3⟩
  rw [if_neg h1]
  by_cases h2 : d.k = 2
  · rw [if_pos h2]
    exact ⟨ok.setr _ (fun h => by cases h), h.setr _ (fun _ _ e => by cases e), Nat.le_succ _⟩
  rw [if_neg h2]
  by_cases h3 : d.k = 3
  · rw [if_pos h3]
    exact ⟨ok.setr _ (ok.rg d.fr), h.setr _ (fun hk j e => h.rgN hk d.fr j e), Nat.le_succ _⟩
  rw [if_neg h3]
  by_cases h4 : d.k = 4
  · rw [if_pos h4]
    by_cases hz : coErr a (rgA a.regs d.to) d.at_ ≠ 0
    · rw [if_pos hz]; exact ⟨ok, h, Nat.le_succ _⟩
    · rw [if_neg hz]
      obtain ⟨i, k, fs, e1, e2, hf, hk⟩ := coErr_zero ok (not_ne hz)
      rw [e1, e2, Int.toNat_natCast, Int.toNat_natCast]
      obtain ⟨p1, p2, p3⟩ := coPut_ok hq ok h hf hk (ok.rg d.fr) (fun hk j e => h.rgN hk d.fr j e)
      exact ⟨p1, p2, by have p4 : (coPut (barOf q) a i k (rgA a.regs d.fr)).objs.length = a.objs.length := p3; dsimp only; omega⟩
  rw [if_neg h4]
  by_cases h5 : d.k = 5
  · rw [if_pos h5]
    by_cases hz : coErr a (rgA a.regs d.fr) d.at_ ≠ 0
    · rw [if_pos hz]; exact ⟨ok, h, Nat.le_succ _⟩
    · rw [if_neg hz]
      obtain ⟨i, k, fs, e1, e2, hf, hk⟩ := coErr_zero ok (not_ne hz)
      refine ⟨ok.setr _ (ok.getv _ _), h.setr _ (fun hk j e => h.getv hk (h.rgN hk d.fr i e1) (at_ := d.at_.toNat) ?_), Nat.le_succ _⟩
      rw [e1, Int.toNat_natCast] at e
      exact e
  rw [if_neg h5]
  split
  · exact ⟨ok, h, Nat.le_succ _⟩
  · exact ⟨ok, h, Nat.le_succ _⟩
end Go.Proofs.Ytjphckfbbiehdaa
