/- slices.SortFunc over pairs of numbers: its bodies lie here (turned by hand out of what the shelf laid over numbers). slices.SortFunc over pairs of numbers, in order. -/
import Derived.Shelf.SlGeneric
import Derived.Shelf.SlSortCmp.WholeK
import Derived.Test.YtjphckfbbiehdaaProg
import Derived.Test.YtjphckfbbiehdaaSGenPlays22
import Derived.Test.YtjphckfbbiehdaaSGenPlays31
import Derived.Test.YtjphckfbbiehdaaSGenPlays8
import Derived.Test.YtjphckfbbiehdaaSGenPlays2
import Derived.Deep.RegionHeld3
set_option linter.unusedSimpArgs false
set_option linter.unusedVariables false
namespace Go.Proofs.Ytjphckfbbiehdaa
open Go.Shelf
def shelf_laysCt_ren : Go.Shelf.Ren := ⟨fun | 6 => 89 | 15 => 149 | 14 => 148 | 28 => 189 | 29 => 190 | 20 => 181 | 21 => 182 | 22 => 183 | 23 => 184 | 24 => 185 | 25 => 186 | 26 => 187 | 27 => 188 | 46 => 207 | 47 => 208 | 48 => 209 | 49 => 210 | 50 => 211 | 57 => 236 | n => n, fun | 22 => 71 | 24 => 174 | 25 => 202 | 3 => 3 | 39 => 258 | 0 => 0 | 53 => 284 | 55 => 287 | 4 => 4 | 46 => 292 | 45 => 291 | 50 => 42 | 5 => 5 | 9 => 9 | 66 => 308 | 70 => 312 | 76 => 329 | 77 => 136 | n => n, fun | n => n⟩
theorem shelf_laysCt : Go.Proofs.SlLaysF0.n6 Try.prog shelf_laysCt_ren := {
  mixed := by kernel_rfl
  f6 := ⟨Try.f89.name, by decide, Try.func89.trans (congrArg some (by kernel_rfl))⟩
  f14 := ⟨Try.f148.name, by decide, Try.func148.trans (congrArg some (by kernel_rfl))⟩
  f15 := Try.func149.trans (congrArg some (by kernel_rfl))
  f20 := ⟨Try.f181.name, by decide, Try.func181.trans (congrArg some (by kernel_rfl))⟩
  f21 := ⟨Try.f182.name, by decide, Try.func182.trans (congrArg some (by kernel_rfl))⟩
  f22 := ⟨Try.f183.name, by decide, Try.func183.trans (congrArg some (by kernel_rfl))⟩
  f23 := ⟨Try.f184.name, by decide, Try.func184.trans (congrArg some (by kernel_rfl))⟩
  f24 := ⟨Try.f185.name, by decide, Try.func185.trans (congrArg some (by kernel_rfl))⟩
  f25 := ⟨Try.f186.name, by decide, Try.func186.trans (congrArg some (by kernel_rfl))⟩
  f26 := ⟨Try.f187.name, by decide, Try.func187.trans (congrArg some (by kernel_rfl))⟩
  f27 := ⟨Try.f188.name, by decide, Try.func188.trans (congrArg some (by kernel_rfl))⟩
  f28 := Try.func189.trans (congrArg some (by kernel_rfl))
  f29 := Try.func190.trans (congrArg some (by kernel_rfl))
  f46 := ⟨Try.f207.name, by decide, Try.func207.trans (congrArg some (by kernel_rfl))⟩
  f47 := Try.func208.trans (congrArg some (by kernel_rfl))
  f48 := Try.func209.trans (congrArg some (by kernel_rfl))
  f49 := ⟨Try.f210.name, by decide, Try.func210.trans (congrArg some (by kernel_rfl))⟩
  f50 := ⟨Try.f211.name, by decide, Try.func211.trans (congrArg some (by kernel_rfl))⟩
  f57 := ⟨Try.f236.name, by decide, Try.func236.trans (congrArg some (by kernel_rfl))⟩
  t0 := Try.underlying0
  a0 := Try.isAgg0
  z0 := Try.sizeOf0
  v0 := Try.zeroValue0
  t3 := Try.underlying3
  a3 := Try.isAgg3
  z3 := Try.sizeOf3
  v3 := Try.zeroValue3
  t4 := Try.underlying4
  a4 := Try.isAgg4
  z4 := Try.sizeOf4
  v4 := Try.zeroValue4
  t5 := Try.underlying5
  a5 := Try.isAgg5
  z5 := Try.sizeOf5
  v5 := Try.zeroValue5
  t9 := Try.underlying9
  a9 := Try.isAgg9
  z9 := Try.sizeOf9
  v9 := Try.zeroValue9
  t22 := Try.underlying71
  a22 := Try.isAgg71
  z22 := Try.sizeOf71
  v22 := Try.zeroValue71
  t25 := Try.underlying202
  a25 := Try.isAgg202
  z25 := Try.sizeOf202
  v25 := Try.zeroValue202
  t39 := Try.underlying258
  a39 := Try.isAgg258
  z39 := Try.sizeOf258
  v39 := Try.zeroValue258
  t45 := Try.underlying291
  a45 := Try.isAgg291
  z45 := Try.sizeOf291
  v45 := Try.zeroValue291
  t46 := Try.underlying292
  a46 := Try.isAgg292
  z46 := Try.sizeOf292
  v46 := Try.zeroValue292
  t50 := Try.underlying42
  a50 := Try.isAgg42
  z50 := Try.sizeOf42
  v50 := Try.zeroValue42
  t53 := Try.underlying284
  a53 := Try.isAgg284
  z53 := Try.sizeOf284
  v53 := Try.zeroValue284
  t55 := Try.underlying287
  a55 := Try.isAgg287
  z55 := Try.sizeOf287
  v55 := Try.zeroValue287
  t66 := Try.underlying308
  a66 := Try.isAgg308
  z66 := Try.sizeOf308
  v66 := Try.zeroValue308
  t70 := Try.underlying312
  a70 := Try.isAgg312
  z70 := Try.sizeOf312
  v70 := Try.zeroValue312
  t76 := Try.underlying329
  a76 := Try.isAgg329
  z76 := Try.sizeOf329
  v76 := Try.zeroValue329
  t77 := Try.underlying136
  a77 := Try.isAgg136
  z77 := Try.sizeOf136
  v77 := Try.zeroValue136 }
theorem ct_isAgg (w : World) : (isAgg 174).run Try.prog w = .ok true w := Try.isAgg174 w
theorem ct_sizeOf (w : World) : (Go.sizeOf 174).run Try.prog w = .ok 2 w := Try.sizeOf174 w
end Go.Proofs.Ytjphckfbbiehdaa

namespace Go.Proofs.Ytjphckfbbiehdaa
open Go.RowKit Go.Sort Go.Lib Go.Shelf
/-- Which of two is less. -/
def cmpG (a b : Int) : Int := if a < b then -1 else if b < a then 1 else 0
set_option maxHeartbeats 400000 in
theorem gnan_any (x : Int) (w : World) : Calls Try.prog 150 #[.int .i64 x] w fun e w' => e = .returned (.bool false) ∧ w' = w := by
  go_enter Try.func150, Try.ntmps150
  go_wp2_with fail
  go_ret
  exact ⟨by first | rfl | simp, rfl⟩
set_option maxHeartbeats 4000000 in
theorem gcmp_any (x y : Int) (w : World) : Calls Try.prog 92 #[.int .i64 x, .int .i64 y] w fun e w' => e = .returned (.int .i64 (cmpG x y)) ∧ w' = w := by
  obtain ⟨z, hz⟩ : ∃ z, cmpG x y = z := ⟨_, rfl⟩
  rw [hz]
  unfold cmpG at hz
  have CN := gnan_any
  by_cases h1 : x < y
  · have t1 : decide (x < y) = true := by simp [h1]
    rw [if_pos h1] at hz
    subst hz
    go_enter Try.func92, Try.ntmps92
    go_wp2_with (go_at_call 150; refine (CN _ _).mono ?_; rintro e w' ⟨rfl, rfl⟩)
    go_ret
    exact ⟨rfl, rfl⟩
  · have t1 : decide (x < y) = false := by simp only [h1, decide_false]
    rw [if_neg h1] at hz
    by_cases h2 : y < x
    · have t2 : decide (y < x) = true := by simp [h2]
      rw [if_pos h2] at hz
      subst hz
      go_enter Try.func92, Try.ntmps92
      go_wp2_with (go_at_call 150; refine (CN _ _).mono ?_; rintro e w' ⟨rfl, rfl⟩)
      go_ret
      exact ⟨rfl, rfl⟩
    · have t2 : decide (y < x) = false := by simp only [h2, decide_false]
      rw [if_neg h2] at hz
      subst hz
      go_enter Try.func92, Try.ntmps92
      go_wp2_with (go_at_call 150; refine (CN _ _).mono ?_; rintro e w' ⟨rfl, rfl⟩)
      go_ret
      exact ⟨rfl, rfl⟩
/-! ### cmp.Or of two numbers. -/
set_option maxHeartbeats 2000000 in
theorem gor_any (w : World) (g : Nat) (x y : Int) (h : Blk w g 3 #[.int .i64 x, .int .i64 y]) : Calls Try.prog 91 #[.slice (some ⟨g, 0, none⟩) 2 2] w fun e w' => e = .returned (.int .i64 (if x ≠ 0 then x else y)) ∧ w' = w := by
  obtain ⟨c1, c2, c3⟩ := h.rules
  have e0 := (c1 0).trans (show _ = some (.int .i64 x) from rfl)
  have e1 := (c1 1).trans (show _ = some (.int .i64 y) from rfl)
  clear c1 h
  by_cases hx : x = 0
  · subst hx
    by_cases hy : y = 0
    · subst hy
      go_enter Try.func91, Try.ntmps91
      go_wp2_with fail
      refine wp_loop_rounds 3 ?_
      rw [rounds_succ]
      go_wp2_with fail
      rw [rounds_succ]
      go_wp2_with fail
      rw [rounds_succ]
      go_wp2_with fail
      go_ret
      exact ⟨rfl, rfl⟩
    · have y1 : decide (y = 0) = false := by simp [hy]
      have y2 : (y == 0) = false := by simp [hy]
      have y3 : (y != 0) = true := by simp [hy]
      go_enter Try.func91, Try.ntmps91
      go_wp2_with fail
      refine wp_loop_rounds 3 ?_
      rw [rounds_succ]
      go_wp2_with fail
      rw [rounds_succ]
      go_wp2_with fail
      go_ret
      exact ⟨rfl, rfl⟩
  · have y1 : decide (x = 0) = false := by simp [hx]
    have y2 : (x == 0) = false := by simp [hx]
    have y3 : (x != 0) = true := by simp [hx]
    rw [if_pos hx]
    go_enter Try.func91, Try.ntmps91
    go_wp2_with fail
    refine wp_loop_rounds 3 ?_
    rw [rounds_succ]
    go_wp2_with fail
    go_ret
    exact ⟨rfl, rfl⟩
/-! ### Rows of pairs. -/
def gpsV (l : List Gp) : List Value := l.flatMap fun b => [.int .i64 (b.1 : Int), .int .i64 (b.2 : Int)]
theorem gpsV_length (l : List Gp) : (gpsV l).length = l.length * 2 := by
  unfold gpsV
  induction l with
  | nil => rfl
  | cons b l ih => simp [List.flatMap_cons, ih]; omega
theorem gpsV_at (l : List Gp) (k : Nat) (hk : k < l.length) : (gpsV l)[k * 2]? = some (.int .i64 (l[k].1 : Int)) ∧ (gpsV l)[k * 2 + 1]? = some (.int .i64 (l[k].2 : Int)) := by
  unfold gpsV
  induction l generalizing k with
  | nil => cases hk
  | cons b l ih =>
    cases k with
    | zero => exact ⟨rfl, rfl⟩
    | succ k =>
      obtain ⟨h1, h2⟩ := ih k (by simpa using hk)
      rw [List.flatMap_cons]
      refine ⟨?_, ?_⟩
      · rw [List.getElem?_append_right (by simp; omega)]
        simp only [List.length_cons, List.length_nil, List.getElem_cons_succ]
        rw [show (k + 1) * 2 - (0 + 1 + 1) = k * 2 by omega]; exact h1
      · rw [List.getElem?_append_right (by simp; omega)]
        simp only [List.length_cons, List.length_nil, List.getElem_cons_succ]
        rw [show (k + 1) * 2 + 1 - (0 + 1 + 1) = k * 2 + 1 by omega]; exact h2
theorem gpsV_app (l : List Gp) (b : Gp) : gpsV (l ++ [b]) = gpsV l ++ [.int .i64 (b.1 : Int), .int .i64 (b.2 : Int)] := by unfold gpsV; simp
def encP (b : Gp) : List Value := [.int .i64 (b.1 : Int), .int .i64 (b.2 : Int)]
theorem encP_one (b : Gp) : ∀ v ∈ encP b, v.oneCell' = true := by
  intro v hv
  rcases List.mem_cons.1 hv with rfl | hv
  · rfl
  · rw [List.mem_singleton.1 hv]; rfl
def cfP (x y : Gp) : Int := if cmpG (x.1 : Int) (y.1 : Int) ≠ 0 then cmpG (x.1 : Int) (y.1 : Int) else cmpG (x.2 : Int) (y.2 : Int)
theorem ltOf_cfP (x y : Gp) : ltOf cfP x y = decide (ltP x y) := by
  unfold ltOf
  refine decide_eq_decide.2 ?_
  unfold cfP cmpG ltP
  obtain ⟨a, b⟩ := x
  obtain ⟨c, d⟩ := y
  dsimp only
  split <;> split <;> (try split) <;> (try split) <;> omega
theorem swo_cfP : SWO (ltOf cfP) where
  irrefl x := by rw [ltOf_cfP]; exact decide_eq_false ltP_irr
  trans x y z h1 h2 := by rw [ltOf_cfP] at *; exact decide_eq_true (ltP_trans (of_decide_eq_true h1) (of_decide_eq_true h2))
  ntrans x y z h1 h2 := by
    rw [ltOf_cfP] at *
    have h1 := of_decide_eq_false h1
    have h2 := of_decide_eq_false h2
    refine decide_eq_false ?_
    unfold ltP at *
    omega
theorem flatK_gp (d : Array Gp) : (flatK encP 2 d).toList = gpsV d.toList := by
  apply List.ext_getElem?
  intro t
  rcases Nat.lt_or_ge t (d.size * 2) with h | h
  · have hd : t / 2 < d.size := by omega
    have hl : t / 2 < d.toList.length := by simpa using hd
    obtain ⟨v0, v1⟩ := gpsV_at d.toList (t / 2) hl
    have h1 := get_flatK encP 2 d t h
    rw [getElem!_pos _ t (by rw [size_flatK]; exact h), getElem!_pos d _ hd] at h1
    rw [Array.getElem?_toList, Array.getElem?_eq_getElem (by rw [size_flatK]; exact h), h1]
    rcases (show t % 2 = 0 ∨ t % 2 = 1 by omega) with h2 | h2
    · rw [show t / 2 * 2 = t by omega] at v0
      rw [h2, v0]
      simp [encP]
    · rw [show t / 2 * 2 + 1 = t by omega] at v1
      rw [h2, v1]
      simp [encP]
  · rw [List.getElem?_eq_none (by rw [Array.length_toList, size_flatK]; exact h), List.getElem?_eq_none (by rw [gpsV_length]; simpa using h)]
theorem sortP_eq (w : World) (g m : Nat) (dk : Array Gp) (os : Array Obj) : sortWorldK encP 2 w g 0 m dk os = sortWorld id w g 0 m (flatK encP 2 dk) os := rfl
theorem size_sortP (w : World) (g k : Nat) (d : Array Value) (os : Array Obj) : (sortWorld id w g 0 k d os).heap.size = w.heap.size + os.size := by simp [sortWorld, grow, putRow, mapBlock, Sort.ahead]
theorem block_sortP (w : World) (g k : Nat) (d : Array Value) (os : Array Obj) (j : Nat) (hj : j < w.heap.size) (hne : j ≠ g) : (sortWorld id w g 0 k d os).heap[j]? = w.heap[j]? := by
  show ((w.heap.modify g _) ++ os)[j]? = _
  rw [Array.getElem?_append_left (by simpa using hj), Array.getElem?_modify, if_neg (fun h => hne h.symm)]
theorem chg_sortP (w : World) (g k : Nat) (d : Array Value) (os : Array Obj) : Chg (fun j => j = g) w (sortWorld id w g 0 k d os) :=
  ⟨rfl, rfl, rfl, by rw [size_sortP]; omega, fun j hj hn => block_sortP w g k d os j hj hn⟩
theorem row_sortP {w : World} {e g n c k : Nat} {l : List Value} {d : Array Value} {os : Array Obj} (hs : (rowI e 2 (some ⟨g, 0, none⟩) n c l).P w) (hd : d.size = l.length) :
    (rowI e 2 (some ⟨g, 0, none⟩) n c d.toList).P (sortWorld id w g 0 k d os) := by
  have hrow : w.ownsRow 0 e 2 (.slice (some ⟨g, 0, none⟩) n c) n l := hs
  have hlt : g < w.heap.size := (hrow.lt g rfl).2
  have hln : l.length = n * 2 := hrow.1
  obtain ⟨h1, h2⟩ := hrow
  rcases h2 with ⟨hv, _⟩ | ⟨g', cap, cur, hv, _, hh, hnc, hcm, hcs, htk⟩
  · cases hv
  · injection hv with e1 e2 e3
    injection e1 with e1
    injection e1 with e1
    subst e1; subst e3
    have hg : (sortWorld id w g 0 k d os).heap[g]? = some (.cells (putCells id 0 d cur) e (0, 0)) := by
      show ((w.heap.modify g _) ++ os)[g]? = _
      rw [Array.getElem?_append_left (by simpa using hlt), Array.getElem?_modify, if_pos rfl, hh]
      rfl
    refine ⟨by rw [Array.length_toList]; omega, .inr ⟨g, c, _, rfl, Nat.zero_le _, hg, hnc, hcm, by simp [putCells]; omega, ?_⟩⟩
    refine List.ext_getElem? fun j => ?_
    rw [List.getElem?_take]
    by_cases hj : j < n * 2
    · rw [if_pos (by omega)]
      have hjc : j < cur.size := by omega
      simp only [putCells, Array.getElem?_toList, Array.getElem?_mapIdx, Array.getElem?_eq_getElem hjc, Option.map_some]
      rw [if_pos (by simp; omega)]
      have hjd : j < d.size := by omega
      simp [Array.getElem?_eq_getElem hjd, getElem!_pos d j hjd]
    · rw [if_neg (by omega)]
      rw [List.getElem?_eq_none (by rw [Array.length_toList]; omega)]
set_option maxHeartbeats 4000000 in
theorem gpcmp_any (w : World) (x y : Gp) : Calls Try.prog 90 #[.agg (encP x).toArray, .agg (encP y).toArray] w fun e w' => e = .returned (.int .i64 (cfP x y)) ∧ ∃ os, w' = grow (w.drewN 1) os := by
  obtain ⟨x1, hx1⟩ : ∃ q, (x.1 : Int) = q := ⟨_, rfl⟩
  obtain ⟨x2, hx2⟩ : ∃ q, (x.2 : Int) = q := ⟨_, rfl⟩
  obtain ⟨y1, hy1⟩ : ∃ q, (y.1 : Int) = q := ⟨_, rfl⟩
  obtain ⟨y2, hy2⟩ : ∃ q, (y.2 : Int) = q := ⟨_, rfl⟩
  have hcf : cfP x y = if cmpG x1 y1 ≠ 0 then cmpG x1 y1 else cmpG x2 y2 := by unfold cfP; rw [hx1, hx2, hy1, hy2]
  rw [hcf]
  show Calls Try.prog 90 #[.agg #[.int .i64 (x.1 : Int), .int .i64 (x.2 : Int)], .agg #[.int .i64 (y.1 : Int), .int .i64 (y.2 : Int)]] w _
  rw [hx1, hx2, hy1, hy2]
  have C1 := hide (gcmp_any x1 y1)
  have C2 := hide (gcmp_any x2 y2)
  obtain ⟨z1, hz1⟩ : ∃ z, cmpG x1 y1 = z := ⟨_, rfl⟩
  obtain ⟨z2, hz2⟩ : ∃ z, cmpG x2 y2 = z := ⟨_, rfl⟩
  rw [hz1] at C1
  rw [hz2] at C2
  rw [hz1, hz2]
  obtain ⟨g, hg⟩ : ∃ g, w.heap.size = g := ⟨_, rfl⟩
  obtain ⟨W, hW⟩ : ∃ W, (w.alloc (.cells #[.int .i64 x1, .int .i64 x2] 174)).alloc (.cells #[.int .i64 y1, .int .i64 y2] 174) = W := ⟨_, rfl⟩
  have hS0 := ((Sep.nil No w).blkAt 174 #[.int .i64 x1, .int .i64 x2] hg).blkAt 174 #[.int .i64 y1, .int .i64 y2] (g := g + 1) (by simp [hg])
  rw [hW] at hS0
  obtain ⟨a1, a2, a3, -⟩ := hS0.rules 0 (g := g) (t := 174) rfl
  obtain ⟨b1, b2, b3, -⟩ := hS0.rules 1 (g := g + 1) (t := 174) rfl
  have a4 := (a1 0).trans (show _ = some (.int .i64 x1) from rfl)
  have a5 := (a1 1).trans (show _ = some (.int .i64 x2) from rfl)
  have b4 := (b1 0).trans (show _ = some (.int .i64 y1) from rfl)
  have b5 := (b1 1).trans (show _ = some (.int .i64 y2) from rfl)
  have HO := hide (gor_any (W.alloc (.cells #[.int .i64 z1, .int .i64 z2] 3)).drew W.heap.size z1 z2 (Blk.new W 3 #[.int .i64 z1, .int .i64 z2]).drew)
  obtain ⟨z, hz⟩ : ∃ z, (if z1 ≠ 0 then z1 else z2) = z := ⟨_, rfl⟩
  rw [hz] at HO ⊢
  clear hz
  have HW := hide hW
  have HGG := hide hg
  clear hcf hx1 hx2 hy1 hy2 hz1 hz2 hS0 a1 b1 hW hg
  go_enter Try.func90, Try.ntmps90
  go_wp2_with fail
  rw [HW.out, HGG.out]
  go_region_held3 (fun w' => w'.cell? ⟨g, 0, none⟩ = some (.int .i64 x1) ∧ w'.cell? ⟨g, 1, none⟩ = some (.int .i64 x2) ∧ w'.cell? ⟨g + 1, 0, none⟩ = some (.int .i64 y1) ∧ w'.cell? ⟨g + 1, 1, none⟩ = some (.int .i64 y2)) (simp (config := { maxDischargeDepth := 8 }) [*, World.cell?_alloc_some])
    (first
      | (go_at_call 92
         first
         | (with_reducible refine (C1.out _).mono ?_
            rintro e w5 ⟨rfl, rfl⟩)
         | (with_reducible refine (C2.out _).mono ?_
            rintro e w5 ⟨rfl, rfl⟩))
      | (go_at_call 91
         (with_reducible refine HO.out.mono ?_)
         rintro e w5 ⟨rfl, rfl⟩))
  all_goals
    go_wp2_with fail
    go_ret
    refine ⟨rfl, #[.cells #[.int .i64 x1, .int .i64 x2] 174, .cells #[.int .i64 y1, .int .i64 y2] 174, .cells #[.int .i64 z1, .int .i64 z2] 3], ?_⟩
    rw [← HW.out]
    rw [alloc_eq_grow, alloc_eq_grow, alloc_eq_grow, grow_grow, grow_grow]
    rfl
theorem cmpP_lays (w : World) (g size : Nat) : CmpLays Try.prog 90 #[] encP 2 cfP g 0 size w := fun m os dk _ x y => by
  refine (gpcmp_any _ x y).mono ?_
  rintro e w' ⟨he, os', rfl⟩
  exact ⟨he, 1, os', rfl⟩
theorem enterP (args : Array Value) (w : World) : (callFunc 90 args).run Try.prog w = .ok (.enter 90 args) w := kenter_of Try.func90 (by kernel_rfl) rfl args w
/-- Pairs are put in order. -/
theorem gpsort_pos {F : Nat → Prop} {W0 w : World} {items : List Item} (h : Sep F W0 w items) (q : Nat) {g n c : Nat} {l : List Gp} (hq : items[q]? = some (rowI 174 2 (some ⟨g, 0, none⟩) n c (gpsV l))) (hn : n ≤ 1000000) :
    Calls Try.prog 89 #[.slice (some ⟨g, 0, none⟩) n c, .func (.func 90) #[] #[]] w fun e w' => e = .returned (.tuple #[]) ∧ ∃ l' : List Gp, l'.Perm l ∧ l'.Pairwise (fun a b => ¬ ltP b a) ∧ Sep F W0 w' (items.set q (rowI 174 2 (some ⟨g, 0, none⟩) n c (gpsV l'))) := by
  have hP := h.get q hq
  have hrow : w.ownsRow 0 174 2 (.slice (some ⟨g, 0, none⟩) n c) n (gpsV l) := hP
  have hln : l.length = n := by have := hrow.1; rw [gpsV_length] at this; omega
  have hsz : l.toArray.size = n := by simpa using hln
  have hH : HoldsK encP 2 w g 0 l.toArray := by
    intro j hj
    rw [size_flatK, hsz] at hj
    refine ⟨?_, hrow.frozenAt _⟩
    have hf := flatK_gp l.toArray
    rw [Nat.zero_add, hrow.cellAt j (by omega)]
    have e : (gpsV l)[j]? = (flatK encP 2 l.toArray).toList[j]? := by rw [hf]
    rw [e, Array.getElem?_toList, getElem!_pos _ j (by rw [size_flatK, hsz]; exact hj)]
    exact Array.getElem?_eq_getElem (by rw [size_flatK, hsz]; exact hj)
  have hc := AnyQ.slices_SortFunc shelf_laysCt 2 ct_isAgg ct_sizeOf encP (fun _ => rfl) encP_one cfP swo_cfP 90 #[] g 0 c l.toArray w enterP (cmpP_lays w g _) hH (hrow.lt g rfl).2 (by rw [hsz]; omega)
  rw [hsz] at hc
  refine Calls.mono hc ?_
  rintro e w' ⟨he, d', m, os, hp, hs, rfl⟩
  obtain ⟨p1, _, p3⟩ := hp
  rw [hsz] at p1
  have e1 : d'.extract 0 n = d' := by rw [← p1]; simp
  have e2 : l.toArray.extract 0 n = l.toArray := by rw [← hsz]; simp
  rw [e1, e2] at p3
  refine ⟨he, d'.toList, by simpa using p3, ?_, ?_⟩
  · rw [List.pairwise_iff_getElem]
    intro i j hi hj hij
    rw [Array.length_toList] at hi hj
    have h4 := hs i j (Nat.zero_le _) hij (by omega)
    rw [ltOf_cfP, getElem!_pos d' i hi, getElem!_pos d' j hj] at h4
    simp only [Array.getElem_toList]
    simpa using h4
  · rw [sortP_eq]
    have h5 := row_sortP (k := m) (d := flatK encP 2 d') (os := os) hP (by rw [size_flatK, p1, gpsV_length, hln])
    rw [flatK_gp] at h5
    exact h.step q hq ((chg_sortP w g m _ os).mono (fun j hj => .inl (by rw [hj]; rfl))) _ h5 (fun g' hg' => .inl hg')
/-! ### SortFunc of none. -/
set_option maxHeartbeats 2000000 in
theorem gpinsNil_any (p : Option Addr) (cap : Nat) (fv : Value) (w : World) : Calls Try.prog 181 #[.slice p 0 cap, .int .i64 0, .int .i64 0, fv] w fun e w' => e = .returned (.tuple #[]) ∧ w' = w := by
  go_enter Try.func181, Try.ntmps181
  go_wp2_with fail
  refine wp_loop_rounds 1 ?_
  rw [rounds_succ]
  go_wp2_with fail
  go_end0
  exact ⟨rfl, rfl⟩
set_option maxHeartbeats 2000000 in
theorem gppdqNil_any (p : Option Addr) (cap : Nat) (lim : Int) (fv : Value) (w : World) : Calls Try.prog 148 #[.slice p 0 cap, .int .i64 0, .int .i64 0, .int .i64 lim, fv] w fun e w' => e = .returned (.tuple #[]) ∧ w' = w := by
  go_enter Try.func148, Try.ntmps148
  go_wp2_with fail
  refine wp_loop_rounds 1 ?_
  rw [rounds_succ]
  go_wp2_with (go_at_call 181; refine (gpinsNil_any _ _ _ _).mono ?_; rintro e w' ⟨rfl, rfl⟩)
  (try simp only [Exit.inBlock, Exit.then]); refine bodyPost_ret (results_none rfl _ _ _) rfl ?_
  exact ⟨rfl, rfl⟩
theorem gpbitsLen0_any (w : World) : Calls Try.prog 149 #[.int .u64 0] w fun e w' => e = .returned (.int .i64 (Lib.bitLen 0 : Nat)) ∧ w' = w := by
  have h := Any.bits_Len (SlLaysF0.n15.bits (P := Try.prog) (ρ := shelf_laysCt_ren) { shelf_laysCt with }) 0 w (by omega) (by omega)
  exact h
set_option maxHeartbeats 2000000 in
theorem gpsortNil_any (p : Option Addr) (cap : Nat) (fv : Value) (w : World) : Calls Try.prog 89 #[.slice p 0 cap, fv] w fun e w' => e = .returned (.tuple #[]) ∧ w' = w := by
  have hl := hide gpbitsLen0_any
  go_enter Try.func89, Try.ntmps89
  go_wp2_with (first | (go_at_call 149; refine (hl.out _).mono ?_; rintro e w' ⟨rfl, rfl⟩) | (go_at_call 148; refine (gppdqNil_any _ _ _ _ _).mono ?_; rintro e w' ⟨rfl, rfl⟩))
  go_end0
  exact ⟨rfl, rfl⟩
/-- Pairs are put in order: none, or some. -/
theorem gpsort_any {F : Nat → Prop} {W0 w : World} {items : List Item} (h : Sep F W0 w items) (q : Nat) {A : Option Addr} {n c : Nat} {l : List Gp} (hq : items[q]? = some (rowI 174 2 A n c (gpsV l))) (hn : n ≤ 1000000) :
    Calls Try.prog 89 #[.slice A n c, .func (.func 90) #[] #[]] w fun e w' => e = .returned (.tuple #[]) ∧ ∃ l' : List Gp, l'.Perm l ∧ l'.Pairwise (fun a b => ¬ ltP b a) ∧ Sep F W0 w' (items.set q (rowI 174 2 A n c (gpsV l'))) := by
  have hrow : w.ownsRow 0 174 2 (.slice A n c) n (gpsV l) := h.get q hq
  have hln : l.length = n := by have := hrow.1; rw [gpsV_length] at this; omega
  by_cases h0 : n = 0
  · subst h0
    have hl0 : l = [] := List.length_eq_zero_iff.1 hln
    subst hl0
    refine (gpsortNil_any A c _ w).mono ?_
    rintro e w' ⟨he, rfl⟩
    exact ⟨he, [], List.Perm.refl _, .nil, h.step q hq (Chg.refl _ _) _ (h.get q hq) (fun g hg => .inl hg)⟩
  · obtain ⟨g, hg⟩ : ∃ g, A = some ⟨g, 0, none⟩ := by
      rcases hrow.2 with ⟨h1, _⟩ | ⟨g, cap, cur, hv, _⟩
      · injection h1 with h1 h2 h3; omega
      · injection hv with hv; exact ⟨g, hv⟩
    subst hg
    exact gpsort_pos h q hq hn
/-! ### Plain. -/
theorem gpsV_counts (l : List Gp) : gpsV l = countsV (l.map fun p => ((p.1 : Int), (p.2 : Int))) := by
  unfold gpsV countsV
  rw [List.flatMap_map]
theorem rem_sorted {l mks l' : List Gp} (hm : mks.Pairwise ltP) (hn : l.Nodup) (h : ∀ p, p ∈ l ↔ p ∈ mks) (hp : l'.Perm l) (hs : l'.Pairwise (fun a b => ¬ ltP b a)) : l' = mks := by
  have hn' : l'.Nodup := (hp.nodup_iff).2 hn
  have h2 : l'.Pairwise ltP := (hs.and hn').imp fun {a b} h => by
    rcases ltP_tri a b with h3 | h3 | h3
    · exact h3
    · exact absurd h3 h.2
    · exact absurd h3 h.1
  exact sorted_uniq h2 hm fun p => (hp.mem_iff).trans (h p)
end Go.Proofs.Ytjphckfbbiehdaa
