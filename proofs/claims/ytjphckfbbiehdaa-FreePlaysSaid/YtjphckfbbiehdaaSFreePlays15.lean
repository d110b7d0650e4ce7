/- A memory with colours, plain: a script; both tell the same. A memory with colours: all white ones go. A memory with colours: from its parts; what the methods do, as the plain deeds say. A memory with colours: small words for what is new. The reference's yard: which free block is chosen. -/
import Derived.Test.YtjphckfbbiehdaaSFreePlays14
import Derived.Test.YtjphckfbbiehdaaSFreePlays13
import Derived.Test.YtjphckfbbiehdaaSFreePlays2
import Derived.BigQuiet
import Derived.Test.YtjphckfbbiehdaaSFreePlays10
set_option linter.unusedSimpArgs false
set_option linter.unusedVariables false
namespace Go.Proofs.Ytjphckfbbiehdaa
open Go.RowKit
structure RtOk (q : Nat) (t : RT) : Prop where
  len : t.gone.length = t.σ.objs.length
  ok : CoOk t.a
  inv : CoInv q t.a
  m : MOk t.σ
theorem stepK_len (d : DoV) (σ : MSt) : (stepK d σ).2.objs.length = σ.objs.length + if d.k = 1 then 1 else 0 := by
  unfold stepK
  by_cases h1 : d.k = 1
  · rw [if_pos h1, if_pos h1]; simp
  rw [if_neg h1, if_neg h1]
  split
  · rfl
  split
  · rfl
  split
  · split <;> simp
  split
  · split <;> simp
  split <;> rfl
theorem stepK_m {d : DoV} {σ : MSt} (h : MOk σ) (hw : rWrong d σ = 0) : MOk (stepK d σ).2 := by
  have h1 := (h.step d).1
  rw [stepM_rw, if_neg (by rw [hw]; simp)] at h1
  exact h1
theorem rtStep_len (q : Nat) (d : DoV) {t : RT} (h : t.gone.length = t.σ.objs.length) : (rtStep q d t).2.gone.length = (rtStep q d t).2.σ.objs.length := by
  unfold rtStep
  by_cases h8 : d.k = 8
  · rw [if_pos h8]; split <;> exact h
  rw [if_neg h8]
  by_cases h9 : d.k = 9
  · rw [if_pos h9]
    split
    · exact h
    · dsimp only; rw [goneL_len]; exact h
  rw [if_neg h9]
  split
  · exact h
  split
  · exact h
  dsimp only
  rw [stepK_len]
  split
  · rw [List.length_append, h]; rfl
  · rw [h]; rfl
theorem rtStep_m (q : Nat) (d : DoV) {t : RT} (h : MOk t.σ) : MOk (rtStep q d t).2.σ := by
  unfold rtStep
  by_cases h8 : d.k = 8
  · rw [if_pos h8]; split <;> exact h
  rw [if_neg h8]
  by_cases h9 : d.k = 9
  · rw [if_pos h9]; split <;> exact h
  rw [if_neg h9]
  by_cases hw : rWrong d t.σ ≠ 0
  · rw [if_pos hw]; exact h
  rw [if_neg hw]
  split
  · exact h
  · refine stepK_m h ?_
    rcases Int.decEq (rWrong d t.σ) 0 with h | h
    · exact absurd h hw
    · exact h
theorem RtOk.n {q : Nat} {t : RT} (h : RtOk q t) : t.a.objs.length = t.σ.objs.length := maskL_len _ _ h.len
theorem RtOk.step {q : Nat} (hq : q = 1 ∨ q = 2 ∨ q = 3) {t : RT} (h : RtOk q t) (hn : t.σ.objs.length < 500) (d : DoV) : RtOk q (rtStep q d t).2 ∧ (rtStep q d t).2.σ.objs.length ≤ t.σ.objs.length + 1 ∧ coStep q d t.a = ((rtStep q d t).1, (rtStep q d t).2.a) := by
  have h1 := rt_co q h.len h.ok d
  obtain ⟨o1, o2, o3⟩ := coStep_ok hq h.ok (by rw [h.n]; exact hn) h.inv d
  rw [h1] at o1 o2 o3
  have hl := rtStep_len q d h.len
  refine ⟨⟨hl, o1, o2, rtStep_m q d h.m⟩, ?_, h1⟩
  rw [h.n, show ((rtStep q d t).1, (rtStep q d t).2.a).2.objs = maskL (rtStep q d t).2.σ.objs (rtStep q d t).2.gone from rfl, maskL_len _ _ hl] at o3
  exact o3
end Go.Proofs.Ytjphckfbbiehdaa

namespace Go.Proofs.Ytjphckfbbiehdaa
open Go.RowKit
def CoS.drop (s : CoS) (i : Nat) : CoS := { s with oj := { s.oj with ps := s.oj.ps.set i none } }
end Go.Proofs.Ytjphckfbbiehdaa

namespace Go.Proofs.Ytjphckfbbiehdaa
open Go.RowKit
def CoS.a (s : CoS) (regs : List Val) : CoA := ⟨regs, s.oj.abs, s.cols, s.gone⟩
end Go.Proofs.Ytjphckfbbiehdaa

namespace Go.Proofs.Ytjphckfbbiehdaa
open Go.RowKit
theorem Sep.blkAtF {F : Nat → Prop} {W w : World} {items : List Item} (h : Sep F W w items) (t : TypeId) (cs : Array Value) {g : Nat} (hg : w.heap.size = g) : Sep F W (w.alloc (.cells cs t)) (blkI g t cs :: items) := (h.blkAt t cs hg).perm (List.perm_append_comm (l₂ := [_]))
theorem row_new {W w w' : World} {items : List Item} {i : Item} (h : Sep No W w items) (hP : Sep No w w' [i]) : Sep No W w' (i :: items) :=
  h.consNew hP.below_ _ (hP.get 0 rfl) (fun g hg => (hP.lo 0 rfl g hg).resolve_left (fun h => h))
end Go.Proofs.Ytjphckfbbiehdaa

namespace Go.Proofs.Ytjphckfbbiehdaa
open Go.RowKit
def bestI (F : List Bk) (o : Option Nat) : Int × Int := match o with | none => (-1, 0) | some j => (((F.getD j (0, 0)).1 : Int), ((F.getD j (0, 0)).2 : Int))
theorem bestI_some (F : List Bk) (j : Nat) : bestI F (some j) = (((F.getD j (0, 0)).1 : Int), ((F.getD j (0, 0)).2 : Int)) := rfl
set_option maxRecDepth 100000 in
set_option maxHeartbeats 16000000 in
theorem fychoose_any {B : Nat} {t : FyT} {w : World} (hP : (fyI B t).P w) (hn : t.tk.length ≤ 300) (hl : t.last ≤ 1000) {n : Nat} (h0 : 0 < n) (hn2 : n ≤ 1000) (p : Int) (hp : p = 1 ∨ p = 2 ∨ p = 3 ∨ p = 4) :
    Calls Try.prog 53 #[.pointer (some ⟨B, 0, none⟩), .int .i64 (n : Int), .int .i64 p] w fun e w' => e = .returned (.int .i64 (bestI (blksF t.tk) (pickK (blksF t.tk) n p t.last (blksF t.tk).length)).1) ∧ Below w.heap.size w w' := by
  obtain ⟨gb, hgb⟩ : ∃ g, w.heap.size = g := ⟨_, rfl⟩
  have HPB := hide (fun (X : World) (hb : Below w.heap.size w X) => (show Sep _ w X ([] ++ fyR B t) from ((Sep.start hP).below hb).flat))
  have hS0 := (Sep.nil No w).blkAt 231 #[.int .i64 (-1), .int .i64 0] hgb
  have CB := hide (fyblocks_any ((HPB.out _ hS0.below_).fold.get 0 rfl) hn)
  have hlen := blkK_len t.tk t.tk.length
  obtain ⟨F, hF⟩ : ∃ F, blksF t.tk = F := ⟨_, rfl⟩
  have HFE := hide (show ∀ b ∈ F, b.1 + b.2 ≤ 300 from fun b hb => by
    rw [← hF] at hb
    have h1 := (blkK_ok t.tk t.tk.length).2.1 b hb
    omega)
  have hm : F.length ≤ 300 := by rw [← hF]; unfold blksF; omega
  rw [hF] at CB ⊢
  obtain ⟨m, hmm⟩ : ∃ m, F.length = m := ⟨_, rfl⟩
  have HM := hide hmm
  rw [hmm] at hm CB ⊢
  have HS0 := hide hS0
  obtain ⟨last, hlast⟩ : ∃ x, t.last = x := ⟨_, rfl⟩
  have HLA := hide hlast
  rw [hlast] at hl ⊢
  clear hP hS0 hlen hF hmm hlast hn
  go_enter Try.func53, Try.ntmps53
  go_wp2_with fail
  refine CB.out.mono ?_
  rintro e w1 ⟨A, c, rfl, hP1⟩
  have HS1 := hide (row_new HS0.out hP1)
  clear hP1 HS0 CB
  go_wp2_with fail
  go_loopw [15] (fun i wr => ∃ (k : Nat), k ≤ m ∧ i = .int .i64 (k : Int) ∧ Sep No w wr [rowI 231 2 A m c (bkV F), blkI gb 231 #[.int .i64 (bestI F (pickK F n p last k)).1, .int .i64 (bestI F (pickK F n p last k)).2]]) (fun i _ => m - (intOf i).toNat)
  case atStart => exact ⟨0, by omega, rfl, HS1.out⟩
  case round =>
    clear HS1
    obtain ⟨k, hk, rfl, hS⟩ := hrel
    obtain ⟨-, -, -, y3, y4, y5⟩ := fy_cells (HPB.out wr hS.below_)
    rw [HLA.out] at y3
    have hgB : gb ≠ B := by
      have := (HPB.out w (Below.refl _ w)).hi 0 rfl B rfl
      omega
    by_cases hlt : k < m
    · obtain ⟨g, hA, hg, hkl, e1, e2, e3, e4⟩ := bk_at (hS.get 0 rfl) (k := k) hlt
      subst hA
      have hnx : pickK F n p last (k + 1) = if fitB F n p last (pickK F n p last k) k = true then some k else pickK F n p last k := rfl
      have hgd : F.getD k (0, 0) = F[k] := by rw [List.getD_eq_getElem?_getD, List.getElem?_eq_getElem hkl]; rfl
      have hbe := HFE.out F[k] (List.getElem_mem hkl)
      obtain ⟨⟨ba, bl⟩, hbb⟩ : ∃ b, F[k] = b := ⟨_, rfl⟩
      rw [hbb] at e1 e2 hgd hbe
      dsimp only at e1 e2 hbe
      have HGD := hide hgd
      obtain ⟨gd, hgdd⟩ : ∃ x, wr.heap.size = x := ⟨_, rfl⟩
      have hgb2 : gb < gd := by rw [← hgdd]; exact hS.hi 1 rfl gb rfl
      obtain ⟨o, ho⟩ : ∃ o, pickK F n p last k = o := ⟨_, rfl⟩
      rw [ho] at hnx hS
      have HPS := hide (show ∀ j, o = some j → (F.getD j (0, 0)).1 + (F.getD j (0, 0)).2 ≤ 300 from fun j hj => by
        have h1 := (pickK_some (ho.trans hj)).1
        have h2 : j < F.length := by omega
        refine HFE.out _ ?_
        rw [List.getD_eq_getElem?_getD, List.getElem?_eq_getElem h2]
        exact List.getElem_mem h2)
      clear ho hbb
      by_cases hbn : bl < n
      · have hno : fitB F n p last o k = false := by
          unfold fitB
          rw [hgd]
          dsimp only
          rw [decide_eq_false (by omega)]; rfl
        rw [hno] at hnx
        have HNX := hide (show pickK F n p last (k + 1) = o from hnx)
        have t1 : decide ((bl : Int) < (n : Int)) = true := by simp; omega
        have t2 : decide (bl < n) = true := by simp [hbn]
        have HS2 := hide (hS.alloc (.cells #[.int .i64 (ba : Int), .int .i64 (bl : Int)] 231))
        clear hnx hno hgd hS hgdd
        go_wp2_with fail
        go_roundw
        case rel => exact ⟨k + 1, by omega, by go_num, by rw [HNX.out]; exact HS2.out⟩
        case measure => simp [intOf]; omega
      · have t1 : decide ((bl : Int) < (n : Int)) = false := by simp; omega
        have t2 : decide (bl < n) = false := by simp; omega
        have t3 : decide (n ≤ bl) = true := by simp; omega
        cases o with
        | none =>
          rw [show fitB F n p last none k = true from by unfold fitB; rw [hgd]; dsimp only; rw [t3]; rfl, if_pos rfl] at hnx
          clear hgd t3
          have HNX := hide hnx
          have hS2 := hS.blkAt 231 #[.int .i64 (ba : Int), .int .i64 (bl : Int)] hgdd
          obtain ⟨b1, b2, b3, -⟩ := hS2.rules 1 (g := gb) (t := 231) rfl
          have b5 := (b1 0).trans (show _ = some (.int .i64 (-1)) from rfl)
          have b6 := (b1 1).trans (show _ = some (.int .i64 0) from rfl)
          obtain ⟨d1, d2, d3, -⟩ := hS2.rules 2 (g := gd) (t := 231) rfl
          have d5 := (d1 0).trans (show _ = some (.int .i64 (ba : Int)) from rfl)
          have d6 := (d1 1).trans (show _ = some (.int .i64 (bl : Int)) from rfl)
          have y3' := (World.cell?_alloc_lt wr (.cells #[.int .i64 (ba : Int), .int .i64 (bl : Int)] 231) _ y5).trans y3
          have n1 : gb ≠ gd := by omega
          have n2 : gd ≠ gb := by omega
          have t4 : decide ((bl : Int) < 0) = false := by simp
          have t5 : decide ((0 : Int) < (bl : Int)) = true := by simp; omega
          have t6 : decide (0 < bl) = true := by simp; omega
          obtain ⟨W2, hW2⟩ : ∃ W, wr.alloc (.cells #[.int .i64 (ba : Int), .int .i64 (bl : Int)] 231) = W := ⟨_, rfl⟩
          rw [hW2] at b2 b3 b5 b6 d2 d3 d5 d6 y3' hS2
          have HW2 := hide hW2
          have HS2 := hide hS2
          have HBEST := hide (show bestI F (some k) = ((ba : Int), (bl : Int)) from by rw [bestI_some, HGD.out])
          clear hnx hS hS2 b1 d1 hW2
          rcases hp with rfl | rfl | rfl | rfl
          · go_upto_region 5 with fail
            rw [HW2.out]
            go_upto_region 9 with fail
            go_quiet (fail)
            go_wp2_with fail
            have hF2 := ((((HS2.out.drewN nq).set_ 1 (g := gb) (t := 231) rfl 0 (.int .i64 (ba : Int))).set_ 1 (g := gb) (t := 231) rfl 1 (.int .i64 (bl : Int))).sub (l := [_, _]) (List.sublist_append_left [_, _] [_]))
            exact ⟨⟨k + 1, by omega, by go_num, by rw [HNX.out, HBEST.out]; exact hF2⟩, by simp [intOf]; omega⟩
          · go_upto_region 5 with fail
            rw [HW2.out]
            go_upto_region 9 with fail
            go_quiet (fail)
            go_wp2_with fail
            have hF2 := ((((HS2.out.drewN nq).set_ 1 (g := gb) (t := 231) rfl 0 (.int .i64 (ba : Int))).set_ 1 (g := gb) (t := 231) rfl 1 (.int .i64 (bl : Int))).sub (l := [_, _]) (List.sublist_append_left [_, _] [_]))
            exact ⟨⟨k + 1, by omega, by go_num, by rw [HNX.out, HBEST.out]; exact hF2⟩, by simp [intOf]; omega⟩
          · go_upto_region 5 with fail
            rw [HW2.out]
            go_upto_region 9 with fail
            go_quiet (fail)
            go_wp2_with fail
            have hF2 := ((((HS2.out.drewN nq).set_ 1 (g := gb) (t := 231) rfl 0 (.int .i64 (ba : Int))).set_ 1 (g := gb) (t := 231) rfl 1 (.int .i64 (bl : Int))).sub (l := [_, _]) (List.sublist_append_left [_, _] [_]))
            exact ⟨⟨k + 1, by omega, by go_num, by rw [HNX.out, HBEST.out]; exact hF2⟩, by simp [intOf]; omega⟩
          · go_upto_region 5 with fail
            rw [HW2.out]
            go_upto_region 9 with fail
            go_quiet (fail)
            go_wp2_with fail
            have hF2 := ((((HS2.out.drewN nq).set_ 1 (g := gb) (t := 231) rfl 0 (.int .i64 (ba : Int))).set_ 1 (g := gb) (t := 231) rfl 1 (.int .i64 (bl : Int))).sub (l := [_, _]) (List.sublist_append_left [_, _] [_]))
            exact ⟨⟨k + 1, by omega, by go_num, by rw [HNX.out, HBEST.out]; exact hF2⟩, by simp [intOf]; omega⟩
        | some j =>
          rw [show fitB F n p last (some j) k = betterB p last (ba, bl) (F.getD j (0, 0)) from by unfold fitB; rw [hgd]; dsimp only; rw [t3]; rfl] at hnx
          clear hgd t3
          have hje := HPS.out j rfl
          obtain ⟨⟨ja, jl⟩, hjj⟩ : ∃ b, F.getD j (0, 0) = b := ⟨_, rfl⟩
          have hbj : bestI F (some j) = ((ja : Int), (jl : Int)) := by rw [bestI_some, hjj]
          rw [hbj] at hS
          rw [hjj] at hnx hje
          dsimp only at hje hS
          have HBJ := hide hbj
          have HBEST := hide (show bestI F (some k) = ((ba : Int), (bl : Int)) from by rw [bestI_some, HGD.out])
          have hS2 := hS.blkAt 231 #[.int .i64 (ba : Int), .int .i64 (bl : Int)] hgdd
          obtain ⟨b1, b2, b3, -⟩ := hS2.rules 1 (g := gb) (t := 231) rfl
          have b5 := (b1 0).trans (show _ = some (.int .i64 (ja : Int)) from rfl)
          have b6 := (b1 1).trans (show _ = some (.int .i64 (jl : Int)) from rfl)
          obtain ⟨d1, d2, d3, -⟩ := hS2.rules 2 (g := gd) (t := 231) rfl
          have d5 := (d1 0).trans (show _ = some (.int .i64 (ba : Int)) from rfl)
          have d6 := (d1 1).trans (show _ = some (.int .i64 (bl : Int)) from rfl)
          have y3' := (World.cell?_alloc_lt wr (.cells #[.int .i64 (ba : Int), .int .i64 (bl : Int)] 231) _ y5).trans y3
          have n1 : gb ≠ gd := by omega
          have n2 : gd ≠ gb := by omega
          have t4 : decide ((ja : Int) < 0) = false := by simp
          have t5 : decide ((0 : Int) ≤ (ja : Int)) = true := by simp
          obtain ⟨W2, hW2⟩ : ∃ W, wr.alloc (.cells #[.int .i64 (ba : Int), .int .i64 (bl : Int)] 231) = W := ⟨_, rfl⟩
          rw [hW2] at b2 b3 b5 b6 d2 d3 d5 d6 y3' hS2
          have HW2 := hide hW2
          have HS2 := hide hS2
          clear hS hS2 b1 d1 hW2 hbj hjj
          rcases hp with rfl | rfl | rfl | rfl
          · have HNX := hide (show pickK F n 1 last (k + 1) = some j from hnx)
            clear hnx

            go_upto_region 5 with fail
            rw [HW2.out]
            go_upto_region 9 with fail
            go_quiet (fail)
            go_wp2_with fail
            have hF2 := ((HS2.out.drewN nq).sub (l := [_, _]) (List.sublist_append_left [_, _] [_]))
            exact ⟨⟨k + 1, by omega, by go_num, by rw [HNX.out, HBJ.out]; exact hF2⟩, by simp [intOf]; omega⟩
          · by_cases hc : bl < jl
            · have t6 : decide ((bl : Int) < (jl : Int)) = true := by simp; omega
              have t7 : decide (bl < jl) = true := by simp; omega
              have HNX := hide (show pickK F n 2 last (k + 1) = some k from by
                rw [hnx, show betterB 2 last (ba, bl) (ja, jl) = decide (bl < jl) from rfl, t7]; rfl)
              clear hnx

              go_upto_region 5 with fail
              rw [HW2.out]
              go_upto_region 9 with fail
              go_quiet (fail)
              go_wp2_with fail
              have hF2 := ((((HS2.out.drewN nq).set_ 1 (g := gb) (t := 231) rfl 0 (.int .i64 (ba : Int))).set_ 1 (g := gb) (t := 231) rfl 1 (.int .i64 (bl : Int))).sub (l := [_, _]) (List.sublist_append_left [_, _] [_]))
              exact ⟨⟨k + 1, by omega, by go_num, by rw [HNX.out, HBEST.out]; exact hF2⟩, by simp [intOf]; omega⟩
            · have t6 : decide ((bl : Int) < (jl : Int)) = false := by simp; omega
              have t7 : decide (bl < jl) = false := by simp; omega
              have HNX := hide (show pickK F n 2 last (k + 1) = some j from by
                rw [hnx, show betterB 2 last (ba, bl) (ja, jl) = decide (bl < jl) from rfl, t7]; rfl)
              clear hnx

              go_upto_region 5 with fail
              rw [HW2.out]
              go_upto_region 9 with fail
              go_quiet (fail)
              go_wp2_with fail
              have hF2 := ((HS2.out.drewN nq).sub (l := [_, _]) (List.sublist_append_left [_, _] [_]))
              exact ⟨⟨k + 1, by omega, by go_num, by rw [HNX.out, HBJ.out]; exact hF2⟩, by simp [intOf]; omega⟩
          · by_cases hc : ja < last
            · have t6 : decide ((ja : Int) < (last : Int)) = true := by simp; omega
              have t7 : decide (ja < last) = true := by simp; omega
              by_cases hd : last ≤ ba
              · have t8 : decide ((last : Int) ≤ (ba : Int)) = true := by simp; omega
                have t9 : decide (last ≤ ba) = true := by simp; omega
                have HNX := hide (show pickK F n 3 last (k + 1) = some k from by
                  rw [hnx, show betterB 3 last (ba, bl) (ja, jl) = (decide (ja < last) && decide (last ≤ ba)) from rfl, t7, t9]; rfl)
                clear hnx

                go_upto_region 5 with fail
                rw [HW2.out]
                go_upto_region 9 with fail
                go_quiet (fail)
                go_wp2_with fail
                have hF2 := ((((HS2.out.drewN nq).set_ 1 (g := gb) (t := 231) rfl 0 (.int .i64 (ba : Int))).set_ 1 (g := gb) (t := 231) rfl 1 (.int .i64 (bl : Int))).sub (l := [_, _]) (List.sublist_append_left [_, _] [_]))
                exact ⟨⟨k + 1, by omega, by go_num, by rw [HNX.out, HBEST.out]; exact hF2⟩, by simp [intOf]; omega⟩
              · have t8 : decide ((last : Int) ≤ (ba : Int)) = false := by simp; omega
                have t9 : decide (last ≤ ba) = false := by simp; omega
                have HNX := hide (show pickK F n 3 last (k + 1) = some j from by
                  rw [hnx, show betterB 3 last (ba, bl) (ja, jl) = (decide (ja < last) && decide (last ≤ ba)) from rfl, t7, t9]; rfl)
                clear hnx

                go_upto_region 5 with fail
                rw [HW2.out]
                go_upto_region 9 with fail
                go_quiet (fail)
                go_wp2_with fail
                have hF2 := ((HS2.out.drewN nq).sub (l := [_, _]) (List.sublist_append_left [_, _] [_]))
                exact ⟨⟨k + 1, by omega, by go_num, by rw [HNX.out, HBJ.out]; exact hF2⟩, by simp [intOf]; omega⟩
            · have t6 : decide ((ja : Int) < (last : Int)) = false := by simp; omega
              have t7 : decide (ja < last) = false := by simp; omega
              have HNX := hide (show pickK F n 3 last (k + 1) = some j from by
                rw [hnx, show betterB 3 last (ba, bl) (ja, jl) = (decide (ja < last) && decide (last ≤ ba)) from rfl, t7]; rfl)
              clear hnx

              go_upto_region 5 with fail
              rw [HW2.out]
              go_upto_region 9 with fail
              go_quiet (fail)
              go_wp2_with fail
              have hF2 := ((HS2.out.drewN nq).sub (l := [_, _]) (List.sublist_append_left [_, _] [_]))
              exact ⟨⟨k + 1, by omega, by go_num, by rw [HNX.out, HBJ.out]; exact hF2⟩, by simp [intOf]; omega⟩
          · by_cases hc : jl < bl
            · have t6 : decide ((jl : Int) < (bl : Int)) = true := by simp; omega
              have t7 : decide (jl < bl) = true := by simp; omega
              have HNX := hide (show pickK F n 4 last (k + 1) = some k from by
                rw [hnx, show betterB 4 last (ba, bl) (ja, jl) = decide (jl < bl) from rfl, t7]; rfl)
              clear hnx

              go_upto_region 5 with fail
              rw [HW2.out]
              go_upto_region 9 with fail
              go_quiet (fail)
              go_wp2_with fail
              have hF2 := ((((HS2.out.drewN nq).set_ 1 (g := gb) (t := 231) rfl 0 (.int .i64 (ba : Int))).set_ 1 (g := gb) (t := 231) rfl 1 (.int .i64 (bl : Int))).sub (l := [_, _]) (List.sublist_append_left [_, _] [_]))
              exact ⟨⟨k + 1, by omega, by go_num, by rw [HNX.out, HBEST.out]; exact hF2⟩, by simp [intOf]; omega⟩
            · have t6 : decide ((jl : Int) < (bl : Int)) = false := by simp; omega
              have t7 : decide (jl < bl) = false := by simp; omega
              have HNX := hide (show pickK F n 4 last (k + 1) = some j from by
                rw [hnx, show betterB 4 last (ba, bl) (ja, jl) = decide (jl < bl) from rfl, t7]; rfl)
              clear hnx

              go_upto_region 5 with fail
              rw [HW2.out]
              go_upto_region 9 with fail
              go_quiet (fail)
              go_wp2_with fail
              have hF2 := ((HS2.out.drewN nq).sub (l := [_, _]) (List.sublist_append_left [_, _] [_]))
              exact ⟨⟨k + 1, by omega, by go_num, by rw [HNX.out, HBJ.out]; exact hF2⟩, by simp [intOf]; omega⟩
    · obtain rfl : k = m := by omega
      obtain ⟨b1, b2, b3, -⟩ := hS.rules 1 (g := gb) (t := 231) rfl
      obtain ⟨r, hr⟩ : ∃ r, bestI F (pickK F n p last k) = r := ⟨_, rfl⟩
      rw [hr] at b1
      have HR := hide hr
      have b5 := (b1 0).trans (show _ = some (.int .i64 r.1) from rfl)
      have HB := hide hS.below_
      clear hS b1 hr
      go_wp2_with fail
      go_ret
      exact ⟨by rw [HR.out]; rfl, HB.out⟩
end Go.Proofs.Ytjphckfbbiehdaa
