/- The reference's memory with colours: how many objects are there; the first grey one. The reference's memory with colours: a round begins; the barriers. The reference's memory with colours: the barriers at whatever deed; an object goes; what is done. -/
import Derived.Test.YtjphckfbbiehdaaGTriPlays8
import Derived.Test.YtjphckfbbiehdaaGIdealPlays17
import Derived.Test.YtjphckfbbiehdaaGIdealPlays11
import Derived.Deep.RegionHeld3
import Derived.Test.YtjphckfbbiehdaaGIdealPlays18
import Derived.Test.YtjphckfbbiehdaaGTriPlays7
import Derived.Deep.OwnRows
set_option linter.unusedSimpArgs false
set_option linter.unusedVariables false
namespace Go.Proofs.Ytjphckfbbiehdaa
open Go.RowKit

theorem goneO_len (gone : List Bool) : (goneO gone).length = gone.length := List.length_map _
theorem goneO_at (gone : List Bool) {k : Nat} (hk : k < gone.length) : ((goneO gone).getD k none).isSome = !gone[k] := by
  unfold goneO
  rw [List.getD_eq_getElem?_getD, List.getElem?_map, List.getElem?_eq_getElem hk]
  cases gone[k] <;> rfl
theorem thereG_K (gone : List Bool) : thereG gone = thereK (goneO gone) gone.length := by unfold thereG thereL; rw [goneO_len]
theorem thereG_succ (gone : List Bool) {k : Nat} (hk : k < gone.length) : thereK (goneO gone) (k + 1) = thereK (goneO gone) k ++ (if gone[k] = true then [] else [(k : Int)]) := by
  rw [thereK_succ, goneO_at gone hk]
  cases gone[k] <;> rfl
theorem thereK_pre {α : Type} (l : List (Option α)) (k n : Nat) (h : k ≤ n) : ∃ r, thereK l n = thereK l k ++ r := by
  induction n with
  | zero => exact ⟨[], by rw [show k = 0 from by omega]; simp⟩
  | succ n ih =>
    rcases Nat.lt_or_ge k (n + 1) with h1 | h1
    · obtain ⟨r, hr⟩ := ih (by omega)
      exact ⟨_, by rw [thereK_succ, hr, List.append_assoc]⟩
    · exact ⟨[], by rw [show k = n + 1 from by omega]; simp⟩
theorem bools_at {w : World} {A : Option Addr} {n c : Nat} {l : List Bool} (h : (rowI 4 1 A n c (bools l)).P w) {z : Nat} (hz : z < n) : ∃ g, A = some ⟨g, 0, none⟩ ∧ ∃ hl : z < l.length, w.cell? ⟨g, z, none⟩ = some (.bool l[z]) ∧ w.frozen? ⟨g, z, none⟩ = false ∧ g < w.heap.size := by
  have ho : w.ownsRow 0 4 1 (.slice A n c) n (bools l) := h
  have hl : l.length = n := by have := ho.1; simpa [bools] using this
  obtain ⟨g, hA⟩ := hown_addr ho (by omega)
  subst hA
  obtain ⟨fd, hA, _, hb, hc⟩ := (Rd.of_own (D := fun _ => True) ho (fun _ _ => trivial)).at_ hz
  obtain rfl : (⟨g, 0, none⟩ : Addr) = fd := by injection hA
  have e := hc (.bool l[z]) (by simp [bools, List.getElem?_eq_getElem (show z < l.length by omega)])
  rw [hraddr0] at e
  exact ⟨g, rfl, by omega, e, ho.frozenAt _, hb⟩
theorem rm_gone {Bm : Nat} {s : RMem} {w : World} (hP : (rmI Bm s).P w) : (rowI 4 1 s.Ag s.gone.length s.cg (bools s.gone)).P w := ((Sep.start hP).flat).get 3 rfl

set_option maxRecDepth 100000 in
set_option maxHeartbeats 4000000 in
theorem rthere_any {Bm : Nat} {s : RMem} {w : World} (hP : (rmI Bm s).P w) (hn : s.gone.length ≤ 1000) :
    Calls Try.prog 79 #[.pointer (some ⟨Bm, 0, none⟩)] w fun e w' => e = .returned (.int .i64 (thereG s.gone).length) ∧ Below w.heap.size w w' := by
  obtain ⟨_, _, m2, m3, _⟩ := rm_mem hP
  have hrow := rm_gone hP
  have hR := Rd.of_own (D := fun _ => True) (show w.ownsRow 0 4 1 (.slice s.Ag s.gone.length s.cg) s.gone.length _ from hrow) (fun _ _ => trivial)
  rw [thereG_K]
  obtain ⟨G, hG⟩ : ∃ l, s.gone = l := ⟨_, rfl⟩
  rw [hG] at m2 hR hn ⊢
  obtain ⟨n, hnn⟩ : ∃ n, G.length = n := ⟨_, rfl⟩
  rw [hnn] at m2 hR hn ⊢
  have HN := hide hnn
  obtain ⟨AG, hAG⟩ : ∃ x, s.Ag = x := ⟨_, rfl⟩
  rw [hAG] at m2 hR
  clear hP hrow hG hnn hAG
  go_enter Try.func79, Try.ntmps79
  go_wp2_with fail
  go_loopw [3, 11] (fun s i wr => ∃ k j : Nat, k ≤ n ∧ i = .int .i64 k ∧ s = .int .i64 j ∧ Hid (j = (thereK (goneO G) k).length) ∧ Below w.heap.size w wr) (fun _ i _ => n - (intOf i).toNat)
  case atStart => exact ⟨0, 0, by omega, rfl, rfl, rfl, Below.refl _ _⟩
  case round =>
    obtain ⟨k, j, hk, rfl, rfl, HJ, hB⟩ := hrel
    have hj : j ≤ 1000 := by have h1 := HJ.out; have h2 := thereK_len (goneO G) k; omega
    by_cases hlt : k < n
    · have hkl : k < G.length := by rw [HN.out]; exact hlt
      obtain ⟨ad, hA, _, had, hc⟩ := (hR.below hB).at_ hlt
      have e0 := hc (.bool G[k]) (by simp [bools, List.getElem?_eq_getElem hkl])
      have hT := thereG_succ G hkl
      obtain ⟨b, hb⟩ : ∃ b, G[k] = b := ⟨_, rfl⟩
      rw [hb] at e0 hT
      have HT := hide hT
      have HB := hide hB
      subst hA
      clear hc hb hT hB
      cases b with
      | true =>
        go_wp2_with fail
        go_roundw
        case rel => exact ⟨k + 1, j, by omega, by go_num, rfl, by show j = _; rw [HT.out, if_pos rfl, List.append_nil]; exact HJ.out, HB.out⟩
        case measure => simp [intOf]; omega
      | false =>
        go_wp2_with fail
        go_roundw
        case rel => exact ⟨k + 1, j + 1, by omega, by go_num, by go_num, by show j + 1 = _; rw [HT.out, if_neg (by simp), List.length_append, ← HJ.out]; rfl, HB.out⟩
        case measure => simp [intOf]; omega
    · obtain rfl : k = n := by omega
      have h := HJ.out
      subst h
      have HB := hide hB
      clear hB
      go_wp2_with fail
      go_ret
      exact ⟨rfl, HB.out⟩

set_option maxRecDepth 100000 in
set_option maxHeartbeats 4000000 in
theorem rgrey_any {Bs : Nat} {s : SdS} {w : World} (hP : (sdI Bs s).P w) (hn : s.cols.length ≤ 1000) (hl : s.m.gone.length = s.cols.length) :
    Calls Try.prog 101 #[.pointer (some ⟨Bs, 0, none⟩)] w fun e w' => e = .returned (.int .i64 (greyF (thereG s.m.gone) s.cols)) ∧ Below w.heap.size w w' := by
  have HPB := hide (fun (X : World) (hb : Below w.heap.size w X) => ((Sep.start hP).below hb).get 0 rfl)
  obtain ⟨N, hN⟩ : ∃ n, s.cols.length = n := ⟨_, rfl⟩
  have HN := hide hN
  have HL := hide hl
  obtain ⟨_, _, b2, b3, _⟩ := sd_cells hP
  rw [hN] at b2 hn
  clear hP hN hl
  go_enter Try.func101, Try.ntmps101
  go_wp2_with fail
  go_loopw [3] (fun i wr => ∃ k : Nat, k ≤ N ∧ i = .int .i64 k ∧ Hid (∀ x ∈ thereK (goneO s.m.gone) k, s.cols.getD x.toNat 0 ≠ 1) ∧ Below w.heap.size w wr) (fun i _ => N - (intOf i).toNat)
  case atStart => exact ⟨0, by omega, rfl, by intro x hx; simp [thereK] at hx, Below.refl _ _⟩
  case round =>
    obtain ⟨k, hk, rfl, HG, hB⟩ := hrel
    have hX := HPB.out wr hB
    obtain ⟨b0, _, b2, b3, _⟩ := sd_cells hX
    rw [HN.out] at b2
    by_cases hlt : k < N
    · have hkl : k < s.cols.length := by rw [HN.out]; exact hlt
      have hkg : k < s.m.gone.length := by rw [HL.out]; exact hkl
      obtain ⟨gc, _, c0, c1, _, c3, _, _⟩ := sd_cell hX hkl
      rw [HN.out] at c0
      obtain ⟨m0, m1, m2, m3, _⟩ := rm_mem (sd_mem hX)
      obtain ⟨gg, hgg, hgl, g1, _, g3⟩ := bools_at (rm_gone (sd_mem hX)) hkg
      rw [hgg, HL.out, HN.out] at m2
      have hT := thereG_succ s.m.gone hkg
      obtain ⟨y, hy⟩ : ∃ y, s.cols.getD k 0 = y := ⟨_, rfl⟩
      rw [hy] at c1
      obtain ⟨b, hb⟩ : ∃ b, s.m.gone[k] = b := ⟨_, rfl⟩
      rw [hb] at g1 hT
      have HT := hide hT
      have HY := hide hy
      have HB := hide hB
      have t1 : decide ((k : Int) < 0) = false := by simp
      have t2 : decide ((N : Int) ≤ (k : Int)) = false := by simp; omega
      obtain ⟨Bm, hBm⟩ : ∃ x, s.Bm = x := ⟨_, rfl⟩
      rw [hBm] at b0 m2 m3
      clear hX hgg hT hy hb hB m0 m1 hBm b2
      cases b with
      | true =>
        go_wp2_with fail
        go_roundw
        case rel => exact ⟨k + 1, by omega, by go_num, by show ∀ x ∈ _, _; rw [HT.out, if_pos rfl, List.append_nil]; exact HG.out, HB.out⟩
        case measure => simp [intOf]; omega
      | false =>
        by_cases hy1 : y = 1
        · subst hy1
          have HHL := hide hkg
          clear hkl hkg hgl
          go_wp2_with fail
          go_ret
          refine ⟨?_, HB.out⟩
          have h1 : greyF (thereG s.m.gone) s.cols = (k : Int) := by
            obtain ⟨r, hr⟩ := thereK_pre (goneO s.m.gone) (k + 1) s.m.gone.length HHL.out
            rw [thereG_K, hr, HT.out, if_neg (by simp)]
            unfold greyF
            have h3 : (thereK (goneO s.m.gone) k).find? (fun x => decide (s.cols.getD x.toNat 0 = 1)) = none := by
              rw [List.find?_eq_none]
              intro x hx h
              exact HG.out x hx (of_decide_eq_true h)
            rw [List.append_assoc, List.find?_append, h3, Option.none_or, List.cons_append, List.nil_append, List.find?_cons, Int.toNat_natCast, HY.out]
            simp
          rw [h1]; rfl
        · have y1 : (y == 1) = false := by simp [hy1]
          have HY1 := hide hy1
          clear hy1
          go_wp2_with fail
          go_roundw
          case rel => exact ⟨k + 1, by omega, by go_num, by
            show ∀ x ∈ _, _
            rw [HT.out, if_neg (by simp)]
            intro x hx
            rcases List.mem_append.1 hx with h | h
            · exact HG.out x h
            · rw [List.mem_singleton.1 h, Int.toNat_natCast, HY.out]; exact HY1.out, HB.out⟩
          case measure => simp [intOf]; omega
    · obtain rfl : k = N := by omega
      have h := HG.out
      have h1 : greyF (thereG s.m.gone) s.cols = -1 := by
        rw [thereG_K, HL.out, HN.out]
        unfold greyF
        have h3 : (thereK (goneO s.m.gone) k).find? (fun x => decide (s.cols.getD x.toNat 0 = 1)) = none := by
          rw [List.find?_eq_none]
          intro x hx h2
          exact h x hx (of_decide_eq_true h2)
        rw [h3]
      have HB := hide hB
      have H1 := hide h1
      clear hX hB h h1
      go_wp2_with fail
      go_ret
      exact ⟨by rw [H1.out]; rfl, HB.out⟩
end Go.Proofs.Ytjphckfbbiehdaa

namespace Go.Proofs.Ytjphckfbbiehdaa
open Go.RowKit

set_option maxRecDepth 100000 in
set_option maxHeartbeats 8000000 in
theorem rbegin_any {Bs : Nat} {s : SdS} {w : World} (hP : (sdI Bs s).P w) (hn : s.cols.length ≤ 1000) (h8 : s.m.regs.length = 8) (h0 : ∀ v ∈ s.m.regs, v.1 = true → 0 ≤ v.2) :
    Calls Try.prog 99 #[.pointer (some ⟨Bs, 0, none⟩)] w fun e w' => (∃ u, e = .returned u) ∧ Sep (sdI Bs s).fp w w' [sdI Bs (s.col (beginC s.cols.length s.m.regs))] := by
  obtain ⟨F, hF⟩ : ∃ F, (sdI Bs s).fp = F := ⟨_, rfl⟩
  have hS0 := Sep.start hP
  rw [hF] at hS0 ⊢
  have HS0 := hide hS0
  obtain ⟨N, hN⟩ : ∃ n, s.cols.length = n := ⟨_, rfl⟩
  rw [hN] at hn ⊢
  have HN := hide hN
  have HBG := hide (fun j => beginC_get (n := N) h0 j)
  have H8 := hide h8
  have HBL := hide (beginC_len N s.m.regs)
  clear hP hS0 hF hN h0 h8
  go_enter Try.func99, Try.ntmps99
  go_wp2_with fail
  go_loopw [2] (fun i wr => ∃ (k : Nat) (l : List Int), k ≤ N ∧ i = .int .i64 k ∧ Hid (l.length = N ∧ ∀ j, j < k → l.getD j 0 = (beginC N s.m.regs).getD j 0) ∧ Sep F w wr [sdI Bs (s.col l)]) (fun i _ => N - (intOf i).toNat)
  case atStart => exact ⟨0, s.cols, by omega, rfl, ⟨HN.out, fun j hj => by omega⟩, HS0.out⟩
  case round =>
    clear HS0
    obtain ⟨k, l, hk, rfl, HI, hS⟩ := hrel
    obtain ⟨b0, _, b2, b3, _⟩ := sd_cells (hS.get 0 rfl)
    have hcl : (s.col l).cols.length = N := HI.out.1
    rw [hcl] at b2
    by_cases hlt : k < N
    · have hz : k < (s.col l).cols.length := by rw [hcl]; exact hlt
      obtain ⟨gc, hAc, c0, c1, c2, c3, c4, n1⟩ := sd_cell (hS.get 0 rfl) hz
      have hap := sd_apart (hS.get 0 rfl) hAc
      rw [hcl] at c0
      obtain ⟨m0, _, _, m3, _⟩ := rm_mem (sd_mem (hS.get 0 rfl))
      have hbm : s.Bm ≠ gc := (hap s.Bm ⟨_, List.mem_cons_self .., rfl⟩).1
      have hbm2 : gc ≠ s.Bm := fun e => hbm e.symm
      obtain ⟨y, hy⟩ : ∃ y, (s.col l).cols.getD k 0 = y := ⟨_, rfl⟩
      rw [hy] at c1
      obtain ⟨cc, hcc⟩ : ∃ c, (s.col l).cc = c := ⟨_, rfl⟩
      rw [hcc] at c0
      have hS1 := sd_store hS (z := k) hAc 0
      have HL1 := hide (show (l.set k 0).length = N ∧ ∀ j, j < k → (l.set k 0).getD j 0 = (beginC N s.m.regs).getD j 0 from ⟨by rw [List.length_set]; exact HI.out.1, fun j hj => by
        rw [getD_set, if_neg (fun h => by omega)]; exact HI.out.2 j hj⟩)
      have HK0 := hide (show (l.set k 0).getD k 0 = 0 from by rw [getD_set, if_pos ⟨rfl, by have := HI.out.1; omega⟩])
      have hR := (rm_obsRd (sd_mem (hS1.get 0 rfl))).2
      have hcs : ((s.col l).col ((s.col l).cols.set k 0)) = s.col (l.set k 0) := rfl
      rw [hcs] at hS1 hR
      have hrl : (s.col l).m.regs.length = 8 := H8.out
      rw [hrl] at m0
      have hRl : (s.col (l.set k 0)).m.regs.length = 8 := H8.out
      rw [hRl] at hR
      have C := refers_any _ _ 8 (s.col l).m.cR _ (k : Int) (by omega) hR
      obtain ⟨b, hb⟩ : ∃ b, refers s.m.regs (k : Int) = b := ⟨_, rfl⟩
      have hb2 : refers (s.col (l.set k 0)).m.regs (k : Int) = b := hb
      rw [hb2] at C
      have HC := hide C
      have HBB := hide hb
      have HS1 := hide hS1
      have n2 : gc ≠ Bs := fun e => n1 e.symm
      obtain ⟨Bm, hBm⟩ : ∃ x, (s.col l).Bm = x := ⟨_, rfl⟩
      have hBm2 : s.Bm = Bm := hBm
      rw [hBm2] at hbm hbm2
      rw [hBm] at b0 m0 m3
      have t1 : decide ((k : Int) < 0) = false := by simp
      have t2 : decide ((N : Int) ≤ (k : Int)) = false := by simp; omega
      have t3 : (0 : Int) ≤ (k : Int) := by omega
      have t4 : (k : Int) < (N : Int) := by omega
      have HAC := hide hAc
      clear hS hz hcl hAc hap hy hcc hR hcs hrl hRl C hb hb2 hBm hBm2 hS1 b2
      go_wp2_with fail
      refine HC.out.mono ?_
      rintro e w2 ⟨rfl, hb2⟩
      have hS2 := HS1.out.below hb2
      cases b with
      | false =>
        have HS2 := hide hS2
        clear hS2 hb2 HC HS1
        go_wp2_with fail
        go_roundw
        case rel => exact ⟨k + 1, l.set k 0, by omega, by go_num, ⟨HL1.out.1, fun j hj => by
          rcases Nat.lt_or_ge j k with h | h
          · exact HL1.out.2 j h
          · obtain rfl : j = k := by omega
            rw [HK0.out, HBG.out, if_neg]
            rintro ⟨h1, _⟩
            rw [(refers_iff _ _).2 h1] at HBB
            exact Bool.noConfusion HBB⟩, HS2.out⟩
        case measure => simp [intOf]; omega
      | true =>
        have hz2 : k < (s.col (l.set k 0)).cols.length := by have := HL1.out.1; show k < (l.set k 0).length; omega
        obtain ⟨gc2, hAc2, c0', c1', c2', c3', c4', _⟩ := sd_cell (hS2.get 0 rfl) hz2
        obtain rfl : gc2 = gc := by have h := HAC.out; have h2 : s.Ac = some ⟨gc, 0, none⟩ := h; have h3 : s.Ac = some ⟨gc2, 0, none⟩ := hAc2; rw [h2] at h3; injection h3 with h4; injection h4 with h5; exact h5.symm
        have hcl2 : (s.col (l.set k 0)).cols.length = N := HL1.out.1
        rw [hcl2] at c0'
        have HS3 := hide (sd_store hS2 (z := k) hAc2 1)
        obtain ⟨y2, hy2⟩ : ∃ y, (s.col (l.set k 0)).cols.getD k 0 = y := ⟨_, rfl⟩
        rw [hy2] at c1'
        obtain ⟨cc2, hcc2⟩ : ∃ c, (s.col (l.set k 0)).cc = c := ⟨_, rfl⟩
        rw [hcc2] at c0'
        clear hS2 hb2 HC HS1 hz2 hAc2 hcl2 hy2 hcc2 b0 b3 c0 c1 c2 c3 c4 m0 m3
        go_wp2_with fail
        go_roundw
        case rel => exact ⟨k + 1, (l.set k 0).set k 1, by omega, by go_num, ⟨by rw [List.length_set]; exact HL1.out.1, fun j hj => by
          rcases Nat.lt_or_ge j k with h | h
          · rw [getD_set, if_neg (fun h2 => by omega)]; exact HL1.out.2 j h
          · obtain rfl : j = k := by omega
            rw [getD_set, if_pos ⟨rfl, by have := HL1.out.1; omega⟩, HBG.out, if_pos ⟨(refers_iff _ _).1 HBB.out, hlt⟩]⟩, HS3.out⟩
        case measure => simp [intOf]; omega
    · obtain rfl : k = N := by omega
      have hl : l = beginC k s.m.regs := List.ext_getElem (by rw [HBL.out]; exact HI.out.1) fun j h1 h2 => by
        have h3 := HI.out.2 j (by have := HI.out.1; omega)
        rw [List.getD_eq_getElem?_getD, List.getElem?_eq_getElem h1, List.getD_eq_getElem?_getD, List.getElem?_eq_getElem h2] at h3
        simpa using h3
      subst hl
      have HS := hide hS
      clear hS hcl
      go_wp2_with fail
      go_end0
      exact ⟨⟨_, rfl⟩, HS.out⟩

theorem rm_ob_at {Bm : Nat} {m : RMem} {X : World} (hP : (rmI Bm m).P X) {i k ga g2 : Nat} (hi : i < m.obs.length) (hk : k < m.obs[i].fields.length) (hga : m.Ao = some ⟨ga, 0, none⟩) (hA2 : m.obs[i].A = some ⟨g2, 0, none⟩) :
    X.cell? ⟨Bm, 1, none⟩ = some (.slice (some ⟨ga, 0, none⟩) m.obs.length m.co) ∧ Bm < X.heap.size ∧ X.cell? ⟨ga, i, none⟩ = some (.slice (some ⟨g2, 0, none⟩) m.obs[i].n m.obs[i].c) ∧ ga < X.heap.size ∧ X.cell? ⟨g2, k * 2, none⟩ = some (.bool m.obs[i].fields[k].1) ∧ X.cell? ⟨g2, k * 2 + 1, none⟩ = some (.int .i64 m.obs[i].fields[k].2) ∧ g2 < X.heap.size := by
  obtain ⟨_, m1, _, m3, _⟩ := rm_mem hP
  obtain ⟨ga', hga', o1, o2⟩ := rm_ob hP hi
  obtain ⟨g2', hA2', d1, d2, _, _, d5⟩ := rm_field hP hi hk
  obtain rfl : ga' = ga := by rw [hga] at hga'; injection hga' with h; injection h with h; exact h.symm
  obtain rfl : g2' = g2 := by rw [hA2] at hA2'; injection hA2' with h; injection h with h; exact h.symm
  rw [hga] at m1
  rw [hA2] at o1
  exact ⟨m1, m3, o1, o2, d1, d2, d5⟩
theorem sd_col_at {Bs : Nat} {s : SdS} {X : World} (hP : (sdI Bs s).P X) {z gc : Nat} (hz : z < s.cols.length) (hA : s.Ac = some ⟨gc, 0, none⟩) :
    X.cell? ⟨Bs, 2, none⟩ = some (.slice (some ⟨gc, 0, none⟩) s.cols.length s.cc) ∧ X.cell? ⟨gc, z, none⟩ = some (.int .i64 (s.cols.getD z 0)) ∧ X.frozen? ⟨gc, z, none⟩ = false ∧ gc < X.heap.size ∧ Bs < X.heap.size ∧ Bs ≠ gc := by
  obtain ⟨gc', hA', c0, c1, c2, c3, c4, n1⟩ := sd_cell hP hz
  obtain rfl : gc' = gc := by rw [hA] at hA'; injection hA' with h; injection h with h; exact h.symm
  exact ⟨c0, c1, c2, c3, c4, n1⟩

set_option maxRecDepth 100000 in
set_option maxHeartbeats 16000000 in
theorem rbars_1 {Bs : Nat} {s : SdS} {w : World} (hP : (sdI Bs s).P w) (hq : s.q = 1) (ok : ROk s.m) (hl : s.cols.length = s.m.obs.length) (R Q : Nat) (hR : R < 8) (hQ : Q < 8) (at_ n : Int) (hz : fErr (absR s.m).objs (rgA s.m.regs R) at_ = 0) :
    Calls Try.prog 102 #[.pointer (some ⟨Bs, 0, none⟩), .agg #[.int .i64 4, .int .i64 R, .int .i64 Q, .int .i64 at_, .int .i64 n]] w fun e w' => (∃ u, e = .returned u) ∧ Sep (sdI Bs s).fp w w' [sdI Bs (s.col (barD s.cols (rgA s.m.regs R).2.toNat ((obA (absR s.m).objs (rgA s.m.regs R).2).getD at_.toNat (false, 0)) (rgA s.m.regs Q)))] := by
  obtain ⟨F, hF⟩ : ∃ F, (sdI Bs s).fp = F := ⟨_, rfl⟩
  obtain ⟨g, hg⟩ : ∃ g, w.heap.size = g := ⟨_, rfl⟩
  have hS0 := (Sep.start hP).blkAt 39 #[.int .i64 4, .int .i64 R, .int .i64 Q, .int .i64 at_, .int .i64 n] hg
  rw [hF] at hS0 ⊢
  have h8 : s.m.regs.length = 8 := ok.m.r8
  obtain ⟨i, k, hRi, rfl, hi, hk, hkn, hn4, hoe⟩ := rferr_facts (sd_mem hP) ok R hz
  have hps : (absR s.m).objs.length = s.m.obs.length := by simp [absR]
  have hvin : ∀ v : Val, (v.1 = true → 0 ≤ v.2 ∧ v.2 < ((absR s.m).objs.length : Int)) → vin s.cols.length v := fun v hv h1 => by
    obtain ⟨h2, h3⟩ := hv h1
    obtain ⟨z, hz⟩ := int_nat h2
    exact ⟨z, hz, by omega⟩
  have hvQ : vin s.cols.length (rgA s.m.regs Q) := hvin _ (valsOk_getD ok.m.vr _)
  have hmem : s.m.obs[i].fields ∈ (absR s.m).objs := List.mem_map.2 ⟨s.m.obs[i], List.getElem_mem hi, rfl⟩
  have hvO : vin s.cols.length s.m.obs[i].fields[k] := hvin _ (ok.m.vo _ hmem _ (List.getElem_mem hk))
  have hold : (obA (absR s.m).objs (rgA s.m.regs R).2).getD ((k : Int)).toNat (false, 0) = s.m.obs[i].fields[k] := by
    rw [hRi, hoe, Int.toNat_natCast, List.getD_eq_getElem?_getD, List.getElem?_eq_getElem hk]; rfl
  rw [hold, show (rgA s.m.regs R).2.toNat = i from by rw [hRi]; exact Int.toNat_natCast i]
  have hcn : s.cols.length ≤ 1000 := by have := ok.n; omega
  have hP0 : (sdI Bs s).P _ := hS0.get 0 rfl
  obtain ⟨b0, b1, b2, b3, _⟩ := sd_cells hP0
  rw [hq] at b1
  obtain ⟨m0, m1, _, m3, _⟩ := rm_mem (sd_mem hP0)
  obtain ⟨r0, r1, _, _, r4⟩ := rm_reg (sd_mem hP0) h8 R hR
  obtain ⟨q0, q1, _, _, _⟩ := rm_reg (sd_mem hP0) h8 Q hQ
  rw [hRi] at r0 r1
  dsimp only at r0 r1
  obtain ⟨ga, hga, o1, o2⟩ := rm_ob (sd_mem hP0) hi
  obtain ⟨g2, hA2, d1, d2, _, _, d5⟩ := rm_field (sd_mem hP0) hi hk
  have HOB := hide (fun (X : World) (C : List Int) (h : (sdI Bs (s.col C)).P X) => rm_ob_at (Bm := s.Bm) (m := s.m) (sd_mem (s := s.col C) h) hi hk hga hA2)
  rw [hA2] at o1
  rw [hga] at m1
  obtain ⟨gc, hAc, c0, c1, c2, c3, c4, n1⟩ := sd_cell hP0 (z := i) (by omega)
  obtain ⟨a1, _, a3, _⟩ := hS0.rules 1 (g := g) (t := 39) rfl
  have e0 := (a1 0).trans (show _ = some (.int .i64 4) from rfl)
  have e1 := (a1 1).trans (show _ = some (.int .i64 (R : Int)) from rfl)
  have e2 := (a1 2).trans (show _ = some (.int .i64 (Q : Int)) from rfl)
  have e3 := (a1 3).trans (show _ = some (.int .i64 (k : Int)) from rfl)
  obtain ⟨v, hv⟩ : ∃ v, rgA s.m.regs (Q : Int) = v := ⟨_, rfl⟩
  rw [hv] at q0 q1 hvQ ⊢
  obtain ⟨u, hu⟩ : ∃ u, s.m.obs[i].fields[k] = u := ⟨_, rfl⟩
  rw [hu] at d1 d2 hvO ⊢
  obtain ⟨L, hL⟩ : ∃ x, s.m.regs.length = x := ⟨_, rfl⟩
  rw [hL] at m0
  have z1 : R < L := by omega
  have z2 : Q < L := by omega
  obtain ⟨NO, hNO⟩ : ∃ x, s.m.obs.length = x := ⟨_, rfl⟩
  rw [hNO] at m1 hi hl
  obtain ⟨oN, hoN⟩ : ∃ x, s.m.obs[i].n = x := ⟨_, rfl⟩
  obtain ⟨oC, hoC⟩ : ∃ x, s.m.obs[i].c = x := ⟨_, rfl⟩
  rw [hoN, hoC] at o1
  rw [hoN] at hkn hn4
  simp only [hu, hNO, hoN, hoC] at HOB
  obtain ⟨Bm, hBm⟩ : ∃ x, s.Bm = x := ⟨_, rfl⟩
  rw [hBm] at b0 m0 m1 m3
  simp only [hBm] at HOB
  obtain ⟨gr, hgr⟩ : ∃ x, s.m.gr = x := ⟨_, rfl⟩
  rw [hgr] at m0 r0 r1 r4 q0 q1
  have hno : NO ≤ 500 := by have := ok.n; omega
  obtain ⟨CN, hCN⟩ : ∃ x, s.cols.length = x := ⟨_, rfl⟩
  rw [hCN] at c0 hl hcn
  have HS0 := hide hS0
  have HQQ := hide hq
  have HAC := hide hAc
  have HCL := hide (fun (X : World) (h : (sdI Bs s).P X) (z : Nat) (hz : z < s.cols.length) => sd_col_at h hz hAc)
  have HSH := hide (fun (X : World) (h : (sdI Bs s).P X) => rshade_any h (by rw [hCN]; exact hcn) v hvQ)
  have HSO := hide (fun (X : World) (h : (sdI Bs s).P X) => rshade_any h (by rw [hCN]; exact hcn) u hvO)
  have HVQ := hide hvQ
  have HVO := hide hvO
  have HCNN := hide hCN
  obtain ⟨bv, mv⟩ := v
  obtain ⟨bu, mu⟩ := u
  dsimp only at q0 q1 d1 d2 HOB HSH HSO HVQ HVO ⊢
  obtain ⟨C2, hC2⟩ : ∃ c, barD s.cols i (bu, mu) (bv, mv) = c := ⟨_, rfl⟩
  have HC2 := hide hC2
  rw [hC2]
  have hmx : Try.prog.follows .mixedOrders = true := by kernel_rfl
  have hiN : i < NO := hi
  have HIC := hide (show i < CN by omega)
  clear hC2 hl
  clear hS0 hP hP0 hF hv hu hL hNO hoN hoC hBm hgr hCN a1 hq ok h8 hRi hk hoe hps hvin hvQ hmem hvO hold hz hga hA2 b2
  have t1 : decide ((i : Int) < 0) = false := by simp
  have t2 : decide ((NO : Int) ≤ (i : Int)) = false := by simp; omega
  have t3 : decide ((CN : Int) ≤ (i : Int)) = false := by have h := HIC.out; simp; omega
  go_enter Try.func102, Try.ntmps102
  go_wp2_with fail
  go_quiet (fail)
  go_wp2_with fail
  go_region_held3 (fun w' => w'.cell? ⟨Bm, 0, none⟩ = some (.slice (some ⟨gr, 0, none⟩) L s.m.cR) ∧ w'.cell? ⟨g, 2, none⟩ = some (.int .i64 (Q : Int)) ∧ w'.cell? ⟨gr, Q * 2, none⟩ = some (.bool bv) ∧ w'.cell? ⟨gr, Q * 2 + 1, none⟩ = some (.int .i64 mv)) (simp (config := { maxDischargeDepth := 8 }) [*, World.cell?_alloc_some]) (fail)
  all_goals
    obtain ⟨W4, hW4, hS4⟩ : ∃ X, ((w.alloc (.cells #[.int .i64 4, .int .i64 R, .int .i64 Q, .int .i64 k, .int .i64 n] 39)).drewN (nq + 1)).alloc (.cells #[.bool bv, .int .i64 mv] 107) = X ∧ Sep F w X (([sdI Bs s] ++ [blkI g 39 #[.int .i64 4, .int .i64 R, .int .i64 Q, .int .i64 k, .int .i64 n]]) ++ [blkI (g + 1) 107 #[.bool bv, .int .i64 mv]]) := ⟨_, rfl, (HS0.out.drewN (nq + 1)).blkAt 107 #[.bool bv, .int .i64 mv] (g := g + 1) (by simp [hg])⟩
    rw [hW4]
    clear hW4 b0 b1 b3 m0 m1 m3 r0 r1 r4 q0 q1 o1 o2 d1 d2 d5 c0 c1 c2 c3 c4 e0 e1 e2 e3 a3
    obtain ⟨-, b1, -, b3, -⟩ := sd_cells (hS4.get 0 rfl)
    replace b1 : W4.cell? ⟨Bs, 1, none⟩ = some (.int .i64 1) := b1.trans (by rw [← HQQ.out])
    obtain ⟨v1, _, v3, _⟩ := hS4.rules 2 (g := g + 1) (t := 107) rfl
    have v5 := (v1 0).trans (show _ = some (.bool bv) from rfl)
    have v6 := (v1 1).trans (show _ = some (.int .i64 mv) from rfl)
    obtain ⟨a1, _, a3, _⟩ := hS4.rules 1 (g := g) (t := 39) rfl
    have e3 := (a1 3).trans (show _ = some (.int .i64 (k : Int)) from rfl)
    have HS4 := hide hS4
    clear v1 a1
    clear hS4 HS0
    go_wp2_with fail
    have hS4 := HS4.out
    refine (HSH.out _ (hS4.get 0 rfl)).mono ?_
    rintro e w5 ⟨⟨u, rfl⟩, hP5⟩
    have hS5 := hS4.call 0 rfl hP5
    obtain ⟨b0, b1, -, b3, -⟩ := sd_cells (hS5.get 0 rfl)
    replace b1 : w5.cell? ⟨Bs, 1, none⟩ = some (.int .i64 1) := b1.trans (by rw [← HQQ.out]; rfl)
    have HS5 := hide hS5
    clear hS4 hS5 hP5 HSH HSO b0
    go_wp2_with fail
    go_quiet (fail)
    go_wp2_with fail
    go_end0
    exact ⟨⟨_, rfl⟩, by rw [← HC2.out]; exact (HS5.out.drewN _).sub (List.sublist_append_left [_] [_, _])⟩
set_option maxRecDepth 100000 in
set_option maxHeartbeats 16000000 in
theorem rbars_3 {Bs : Nat} {s : SdS} {w : World} (hP : (sdI Bs s).P w) (hq : s.q = 3) (ok : ROk s.m) (hl : s.cols.length = s.m.obs.length) (R Q : Nat) (hR : R < 8) (hQ : Q < 8) (at_ n : Int) (hz : fErr (absR s.m).objs (rgA s.m.regs R) at_ = 0) :
    Calls Try.prog 102 #[.pointer (some ⟨Bs, 0, none⟩), .agg #[.int .i64 4, .int .i64 R, .int .i64 Q, .int .i64 at_, .int .i64 n]] w fun e w' => (∃ u, e = .returned u) ∧ Sep (sdI Bs s).fp w w' [sdI Bs (s.col (barY s.cols (rgA s.m.regs R).2.toNat ((obA (absR s.m).objs (rgA s.m.regs R).2).getD at_.toNat (false, 0)) (rgA s.m.regs Q)))] := by
  obtain ⟨F, hF⟩ : ∃ F, (sdI Bs s).fp = F := ⟨_, rfl⟩
  obtain ⟨g, hg⟩ : ∃ g, w.heap.size = g := ⟨_, rfl⟩
  have hS0 := (Sep.start hP).blkAt 39 #[.int .i64 4, .int .i64 R, .int .i64 Q, .int .i64 at_, .int .i64 n] hg
  rw [hF] at hS0 ⊢
  have h8 : s.m.regs.length = 8 := ok.m.r8
  obtain ⟨i, k, hRi, rfl, hi, hk, hkn, hn4, hoe⟩ := rferr_facts (sd_mem hP) ok R hz
  have hps : (absR s.m).objs.length = s.m.obs.length := by simp [absR]
  have hvin : ∀ v : Val, (v.1 = true → 0 ≤ v.2 ∧ v.2 < ((absR s.m).objs.length : Int)) → vin s.cols.length v := fun v hv h1 => by
    obtain ⟨h2, h3⟩ := hv h1
    obtain ⟨z, hz⟩ := int_nat h2
    exact ⟨z, hz, by omega⟩
  have hvQ : vin s.cols.length (rgA s.m.regs Q) := hvin _ (valsOk_getD ok.m.vr _)
  have hmem : s.m.obs[i].fields ∈ (absR s.m).objs := List.mem_map.2 ⟨s.m.obs[i], List.getElem_mem hi, rfl⟩
  have hvO : vin s.cols.length s.m.obs[i].fields[k] := hvin _ (ok.m.vo _ hmem _ (List.getElem_mem hk))
  have hold : (obA (absR s.m).objs (rgA s.m.regs R).2).getD ((k : Int)).toNat (false, 0) = s.m.obs[i].fields[k] := by
    rw [hRi, hoe, Int.toNat_natCast, List.getD_eq_getElem?_getD, List.getElem?_eq_getElem hk]; rfl
  rw [hold, show (rgA s.m.regs R).2.toNat = i from by rw [hRi]; exact Int.toNat_natCast i]
  have hcn : s.cols.length ≤ 1000 := by have := ok.n; omega
  have hP0 : (sdI Bs s).P _ := hS0.get 0 rfl
  obtain ⟨b0, b1, b2, b3, _⟩ := sd_cells hP0
  rw [hq] at b1
  obtain ⟨m0, m1, _, m3, _⟩ := rm_mem (sd_mem hP0)
  obtain ⟨r0, r1, _, _, r4⟩ := rm_reg (sd_mem hP0) h8 R hR
  obtain ⟨q0, q1, _, _, _⟩ := rm_reg (sd_mem hP0) h8 Q hQ
  rw [hRi] at r0 r1
  dsimp only at r0 r1
  obtain ⟨ga, hga, o1, o2⟩ := rm_ob (sd_mem hP0) hi
  obtain ⟨g2, hA2, d1, d2, _, _, d5⟩ := rm_field (sd_mem hP0) hi hk
  have HOB := hide (fun (X : World) (C : List Int) (h : (sdI Bs (s.col C)).P X) => rm_ob_at (Bm := s.Bm) (m := s.m) (sd_mem (s := s.col C) h) hi hk hga hA2)
  rw [hA2] at o1
  rw [hga] at m1
  obtain ⟨gc, hAc, c0, c1, c2, c3, c4, n1⟩ := sd_cell hP0 (z := i) (by omega)
  obtain ⟨a1, _, a3, _⟩ := hS0.rules 1 (g := g) (t := 39) rfl
  have e0 := (a1 0).trans (show _ = some (.int .i64 4) from rfl)
  have e1 := (a1 1).trans (show _ = some (.int .i64 (R : Int)) from rfl)
  have e2 := (a1 2).trans (show _ = some (.int .i64 (Q : Int)) from rfl)
  have e3 := (a1 3).trans (show _ = some (.int .i64 (k : Int)) from rfl)
  obtain ⟨v, hv⟩ : ∃ v, rgA s.m.regs (Q : Int) = v := ⟨_, rfl⟩
  rw [hv] at q0 q1 hvQ ⊢
  obtain ⟨u, hu⟩ : ∃ u, s.m.obs[i].fields[k] = u := ⟨_, rfl⟩
  rw [hu] at d1 d2 hvO ⊢
  obtain ⟨L, hL⟩ : ∃ x, s.m.regs.length = x := ⟨_, rfl⟩
  rw [hL] at m0
  have z1 : R < L := by omega
  have z2 : Q < L := by omega
  obtain ⟨NO, hNO⟩ : ∃ x, s.m.obs.length = x := ⟨_, rfl⟩
  rw [hNO] at m1 hi hl
  obtain ⟨oN, hoN⟩ : ∃ x, s.m.obs[i].n = x := ⟨_, rfl⟩
  obtain ⟨oC, hoC⟩ : ∃ x, s.m.obs[i].c = x := ⟨_, rfl⟩
  rw [hoN, hoC] at o1
  rw [hoN] at hkn hn4
  simp only [hu, hNO, hoN, hoC] at HOB
  obtain ⟨Bm, hBm⟩ : ∃ x, s.Bm = x := ⟨_, rfl⟩
  rw [hBm] at b0 m0 m1 m3
  simp only [hBm] at HOB
  obtain ⟨gr, hgr⟩ : ∃ x, s.m.gr = x := ⟨_, rfl⟩
  rw [hgr] at m0 r0 r1 r4 q0 q1
  have hno : NO ≤ 500 := by have := ok.n; omega
  obtain ⟨CN, hCN⟩ : ∃ x, s.cols.length = x := ⟨_, rfl⟩
  rw [hCN] at c0 hl hcn
  have HS0 := hide hS0
  have HQQ := hide hq
  have HAC := hide hAc
  have HCL := hide (fun (X : World) (h : (sdI Bs s).P X) (z : Nat) (hz : z < s.cols.length) => sd_col_at h hz hAc)
  have HSH := hide (fun (X : World) (h : (sdI Bs s).P X) => rshade_any h (by rw [hCN]; exact hcn) v hvQ)
  have HSO := hide (fun (X : World) (h : (sdI Bs s).P X) => rshade_any h (by rw [hCN]; exact hcn) u hvO)
  have HVQ := hide hvQ
  have HVO := hide hvO
  have HCNN := hide hCN
  obtain ⟨bv, mv⟩ := v
  obtain ⟨bu, mu⟩ := u
  dsimp only at q0 q1 d1 d2 HOB HSH HSO HVQ HVO ⊢
  obtain ⟨C2, hC2⟩ : ∃ c, barY s.cols i (bu, mu) (bv, mv) = c := ⟨_, rfl⟩
  have HC2 := hide hC2
  rw [hC2]
  have hmx : Try.prog.follows .mixedOrders = true := by kernel_rfl
  have hiN : i < NO := hi
  have HIC := hide (show i < CN by omega)
  clear hC2 hl
  clear hS0 hP hP0 hF hv hu hL hNO hoN hoC hBm hgr hCN a1 hq ok h8 hRi hk hoe hps hvin hvQ hmem hvO hold hz hga hA2 b2
  have t1 : decide ((i : Int) < 0) = false := by simp
  have t2 : decide ((NO : Int) ≤ (i : Int)) = false := by simp; omega
  have t3 : decide ((CN : Int) ≤ (i : Int)) = false := by have h := HIC.out; simp; omega
  go_enter Try.func102, Try.ntmps102
  go_wp2_with fail
  go_quiet (fail)
  go_wp2_with fail
  go_region_held3 (fun w' => w'.cell? ⟨Bm, 0, none⟩ = some (.slice (some ⟨gr, 0, none⟩) L s.m.cR) ∧ w'.cell? ⟨g, 2, none⟩ = some (.int .i64 (Q : Int)) ∧ w'.cell? ⟨gr, Q * 2, none⟩ = some (.bool bv) ∧ w'.cell? ⟨gr, Q * 2 + 1, none⟩ = some (.int .i64 mv)) (simp (config := { maxDischargeDepth := 8 }) [*, World.cell?_alloc_some]) (fail)
  all_goals
    obtain ⟨W4, hW4, hS4⟩ : ∃ X, ((w.alloc (.cells #[.int .i64 4, .int .i64 R, .int .i64 Q, .int .i64 k, .int .i64 n] 39)).drewN (nq + 1)).alloc (.cells #[.bool bv, .int .i64 mv] 107) = X ∧ Sep F w X (([sdI Bs s] ++ [blkI g 39 #[.int .i64 4, .int .i64 R, .int .i64 Q, .int .i64 k, .int .i64 n]]) ++ [blkI (g + 1) 107 #[.bool bv, .int .i64 mv]]) := ⟨_, rfl, (HS0.out.drewN (nq + 1)).blkAt 107 #[.bool bv, .int .i64 mv] (g := g + 1) (by simp [hg])⟩
    rw [hW4]
    clear hW4 b0 b1 b3 m0 m1 m3 r0 r1 r4 q0 q1 o1 o2 d1 d2 d5 c0 c1 c2 c3 c4 e0 e1 e2 e3 a3
    obtain ⟨-, b1, -, b3, -⟩ := sd_cells (hS4.get 0 rfl)
    replace b1 : W4.cell? ⟨Bs, 1, none⟩ = some (.int .i64 3) := b1.trans (by rw [← HQQ.out])
    obtain ⟨v1, _, v3, _⟩ := hS4.rules 2 (g := g + 1) (t := 107) rfl
    have v5 := (v1 0).trans (show _ = some (.bool bv) from rfl)
    have v6 := (v1 1).trans (show _ = some (.int .i64 mv) from rfl)
    obtain ⟨a1, _, a3, _⟩ := hS4.rules 1 (g := g) (t := 39) rfl
    have e3 := (a1 3).trans (show _ = some (.int .i64 (k : Int)) from rfl)
    have HS4 := hide hS4
    clear v1 a1
    obtain ⟨m1, m3, o1, o2, d1, d2, d5⟩ := HOB.out _ s.cols (hS4.get 0 rfl)
    clear hS4 HS0
    go_wp2_with fail
    go_region_held3 (fun w' => w'.cell? ⟨Bm, 1, none⟩ = some (.slice (some ⟨ga, 0, none⟩) NO s.m.co) ∧ w'.cell? ⟨ga, i, none⟩ = some (.slice (some ⟨g2, 0, none⟩) oN oC) ∧ w'.cell? ⟨g, 3, none⟩ = some (.int .i64 (k : Int)) ∧ w'.cell? ⟨g2, k * 2, none⟩ = some (.bool bu) ∧ w'.cell? ⟨g2, k * 2 + 1, none⟩ = some (.int .i64 mu)) (simp (config := { maxDischargeDepth := 8 }) [*, World.cell?_alloc_some])
      (first
        | (go_at_call 100; (with_reducible refine (HSO.out _ (HS4.out.drew.get 0 rfl)).mono ?_); rintro e w5 ⟨⟨u, rfl⟩, hP5⟩; have hS5 := HS4.out.drew.call 0 rfl hP5; obtain ⟨m1, m3, o1, o2, d1, d2, d5⟩ := HOB.out _ _ (hS5.get 0 rfl); obtain ⟨a1, _, a3, _⟩ := hS5.rules 1 (g := g) (t := 39) rfl; have e3 := (a1 3).trans (show _ = some (.int .i64 (k : Int)) from rfl); clear a1))
    all_goals
      obtain ⟨b0, b1, -, b3, -⟩ := sd_cells (hS5.get 0 rfl)
      replace b1 : w5.cell? ⟨Bs, 1, none⟩ = some (.int .i64 3) := b1.trans (by rw [← HQQ.out]; rfl)
      have HS5 := hide hS5
      clear hS5 hP5 HSH HSO b0
      go_wp2_with fail
      go_quiet (fail)
      go_wp2_with fail
      go_end0
      exact ⟨⟨_, rfl⟩, by rw [← HC2.out]; exact (HS5.out.drewN _).sub (List.sublist_append_left [_] [_, _])⟩
set_option maxRecDepth 100000 in
set_option maxHeartbeats 16000000 in
theorem rbars_2 {Bs : Nat} {s : SdS} {w : World} (hP : (sdI Bs s).P w) (hq : s.q = 2) (ok : ROk s.m) (hl : s.cols.length = s.m.obs.length) (R Q : Nat) (hR : R < 8) (hQ : Q < 8) (at_ n : Int) (hz : fErr (absR s.m).objs (rgA s.m.regs R) at_ = 0) :
    Calls Try.prog 102 #[.pointer (some ⟨Bs, 0, none⟩), .agg #[.int .i64 4, .int .i64 R, .int .i64 Q, .int .i64 at_, .int .i64 n]] w fun e w' => (∃ u, e = .returned u) ∧ Sep (sdI Bs s).fp w w' [sdI Bs (s.col (barS s.cols (rgA s.m.regs R).2.toNat ((obA (absR s.m).objs (rgA s.m.regs R).2).getD at_.toNat (false, 0)) (rgA s.m.regs Q)))] := by
  obtain ⟨F, hF⟩ : ∃ F, (sdI Bs s).fp = F := ⟨_, rfl⟩
  obtain ⟨g, hg⟩ : ∃ g, w.heap.size = g := ⟨_, rfl⟩
  have hS0 := (Sep.start hP).blkAt 39 #[.int .i64 4, .int .i64 R, .int .i64 Q, .int .i64 at_, .int .i64 n] hg
  rw [hF] at hS0 ⊢
  have h8 : s.m.regs.length = 8 := ok.m.r8
  obtain ⟨i, k, hRi, rfl, hi, hk, hkn, hn4, hoe⟩ := rferr_facts (sd_mem hP) ok R hz
  have hps : (absR s.m).objs.length = s.m.obs.length := by simp [absR]
  have hvin : ∀ v : Val, (v.1 = true → 0 ≤ v.2 ∧ v.2 < ((absR s.m).objs.length : Int)) → vin s.cols.length v := fun v hv h1 => by
    obtain ⟨h2, h3⟩ := hv h1
    obtain ⟨z, hz⟩ := int_nat h2
    exact ⟨z, hz, by omega⟩
  have hvQ : vin s.cols.length (rgA s.m.regs Q) := hvin _ (valsOk_getD ok.m.vr _)
  have hmem : s.m.obs[i].fields ∈ (absR s.m).objs := List.mem_map.2 ⟨s.m.obs[i], List.getElem_mem hi, rfl⟩
  have hvO : vin s.cols.length s.m.obs[i].fields[k] := hvin _ (ok.m.vo _ hmem _ (List.getElem_mem hk))
  have hold : (obA (absR s.m).objs (rgA s.m.regs R).2).getD ((k : Int)).toNat (false, 0) = s.m.obs[i].fields[k] := by
    rw [hRi, hoe, Int.toNat_natCast, List.getD_eq_getElem?_getD, List.getElem?_eq_getElem hk]; rfl
  rw [hold, show (rgA s.m.regs R).2.toNat = i from by rw [hRi]; exact Int.toNat_natCast i]
  have hcn : s.cols.length ≤ 1000 := by have := ok.n; omega
  have hP0 : (sdI Bs s).P _ := hS0.get 0 rfl
  obtain ⟨b0, b1, b2, b3, _⟩ := sd_cells hP0
  rw [hq] at b1
  obtain ⟨m0, m1, _, m3, _⟩ := rm_mem (sd_mem hP0)
  obtain ⟨r0, r1, _, _, r4⟩ := rm_reg (sd_mem hP0) h8 R hR
  obtain ⟨q0, q1, _, _, _⟩ := rm_reg (sd_mem hP0) h8 Q hQ
  rw [hRi] at r0 r1
  dsimp only at r0 r1
  obtain ⟨ga, hga, o1, o2⟩ := rm_ob (sd_mem hP0) hi
  obtain ⟨g2, hA2, d1, d2, _, _, d5⟩ := rm_field (sd_mem hP0) hi hk
  have HOB := hide (fun (X : World) (C : List Int) (h : (sdI Bs (s.col C)).P X) => rm_ob_at (Bm := s.Bm) (m := s.m) (sd_mem (s := s.col C) h) hi hk hga hA2)
  rw [hA2] at o1
  rw [hga] at m1
  obtain ⟨gc, hAc, c0, c1, c2, c3, c4, n1⟩ := sd_cell hP0 (z := i) (by omega)
  obtain ⟨a1, _, a3, _⟩ := hS0.rules 1 (g := g) (t := 39) rfl
  have e0 := (a1 0).trans (show _ = some (.int .i64 4) from rfl)
  have e1 := (a1 1).trans (show _ = some (.int .i64 (R : Int)) from rfl)
  have e2 := (a1 2).trans (show _ = some (.int .i64 (Q : Int)) from rfl)
  have e3 := (a1 3).trans (show _ = some (.int .i64 (k : Int)) from rfl)
  obtain ⟨v, hv⟩ : ∃ v, rgA s.m.regs (Q : Int) = v := ⟨_, rfl⟩
  rw [hv] at q0 q1 hvQ ⊢
  obtain ⟨u, hu⟩ : ∃ u, s.m.obs[i].fields[k] = u := ⟨_, rfl⟩
  rw [hu] at d1 d2 hvO ⊢
  obtain ⟨L, hL⟩ : ∃ x, s.m.regs.length = x := ⟨_, rfl⟩
  rw [hL] at m0
  have z1 : R < L := by omega
  have z2 : Q < L := by omega
  obtain ⟨NO, hNO⟩ : ∃ x, s.m.obs.length = x := ⟨_, rfl⟩
  rw [hNO] at m1 hi hl
  obtain ⟨oN, hoN⟩ : ∃ x, s.m.obs[i].n = x := ⟨_, rfl⟩
  obtain ⟨oC, hoC⟩ : ∃ x, s.m.obs[i].c = x := ⟨_, rfl⟩
  rw [hoN, hoC] at o1
  rw [hoN] at hkn hn4
  simp only [hu, hNO, hoN, hoC] at HOB
  obtain ⟨Bm, hBm⟩ : ∃ x, s.Bm = x := ⟨_, rfl⟩
  rw [hBm] at b0 m0 m1 m3
  simp only [hBm] at HOB
  obtain ⟨gr, hgr⟩ : ∃ x, s.m.gr = x := ⟨_, rfl⟩
  rw [hgr] at m0 r0 r1 r4 q0 q1
  have hno : NO ≤ 500 := by have := ok.n; omega
  obtain ⟨CN, hCN⟩ : ∃ x, s.cols.length = x := ⟨_, rfl⟩
  rw [hCN] at c0 hl hcn
  have HS0 := hide hS0
  have HQQ := hide hq
  have HAC := hide hAc
  have HCL := hide (fun (X : World) (h : (sdI Bs s).P X) (z : Nat) (hz : z < s.cols.length) => sd_col_at h hz hAc)
  have HSH := hide (fun (X : World) (h : (sdI Bs s).P X) => rshade_any h (by rw [hCN]; exact hcn) v hvQ)
  have HSO := hide (fun (X : World) (h : (sdI Bs s).P X) => rshade_any h (by rw [hCN]; exact hcn) u hvO)
  have HVQ := hide hvQ
  have HVO := hide hvO
  have HCNN := hide hCN
  obtain ⟨bv, mv⟩ := v
  obtain ⟨bu, mu⟩ := u
  dsimp only at q0 q1 d1 d2 HOB HSH HSO HVQ HVO ⊢
  obtain ⟨C2, hC2⟩ : ∃ c, barS s.cols i (bu, mu) (bv, mv) = c := ⟨_, rfl⟩
  have HC2 := hide hC2
  rw [hC2]
  have hmx : Try.prog.follows .mixedOrders = true := by kernel_rfl
  have hiN : i < NO := hi
  have HIC := hide (show i < CN by omega)
  clear hC2 hl
  clear hS0 hP hP0 hF hv hu hL hNO hoN hoC hBm hgr hCN a1 hq ok h8 hRi hk hoe hps hvin hvQ hmem hvO hold hz hga hA2 b2
  have t1 : decide ((i : Int) < 0) = false := by simp
  have t2 : decide ((NO : Int) ≤ (i : Int)) = false := by simp; omega
  have t3 : decide ((CN : Int) ≤ (i : Int)) = false := by have h := HIC.out; simp; omega
  go_enter Try.func102, Try.ntmps102
  go_wp2_with fail
  go_quiet (fail)
  go_wp2_with fail
  go_region_held3 (fun w' => w'.cell? ⟨Bm, 0, none⟩ = some (.slice (some ⟨gr, 0, none⟩) L s.m.cR) ∧ w'.cell? ⟨g, 2, none⟩ = some (.int .i64 (Q : Int)) ∧ w'.cell? ⟨gr, Q * 2, none⟩ = some (.bool bv) ∧ w'.cell? ⟨gr, Q * 2 + 1, none⟩ = some (.int .i64 mv)) (simp (config := { maxDischargeDepth := 8 }) [*, World.cell?_alloc_some]) (fail)
  all_goals
    obtain ⟨W4, hW4, hS4⟩ : ∃ X, ((w.alloc (.cells #[.int .i64 4, .int .i64 R, .int .i64 Q, .int .i64 k, .int .i64 n] 39)).drewN (nq + 1)).alloc (.cells #[.bool bv, .int .i64 mv] 107) = X ∧ Sep F w X (([sdI Bs s] ++ [blkI g 39 #[.int .i64 4, .int .i64 R, .int .i64 Q, .int .i64 k, .int .i64 n]]) ++ [blkI (g + 1) 107 #[.bool bv, .int .i64 mv]]) := ⟨_, rfl, (HS0.out.drewN (nq + 1)).blkAt 107 #[.bool bv, .int .i64 mv] (g := g + 1) (by simp [hg])⟩
    rw [hW4]
    clear hW4 b0 b1 b3 m0 m1 m3 r0 r1 r4 q0 q1 o1 o2 d1 d2 d5 c0 c1 c2 c3 c4 e0 e1 e2 e3 a3
    obtain ⟨-, b1, -, b3, -⟩ := sd_cells (hS4.get 0 rfl)
    replace b1 : W4.cell? ⟨Bs, 1, none⟩ = some (.int .i64 2) := b1.trans (by rw [← HQQ.out])
    obtain ⟨v1, _, v3, _⟩ := hS4.rules 2 (g := g + 1) (t := 107) rfl
    have v5 := (v1 0).trans (show _ = some (.bool bv) from rfl)
    have v6 := (v1 1).trans (show _ = some (.int .i64 mv) from rfl)
    obtain ⟨a1, _, a3, _⟩ := hS4.rules 1 (g := g) (t := 39) rfl
    have e3 := (a1 3).trans (show _ = some (.int .i64 (k : Int)) from rfl)
    have HS4 := hide hS4
    clear v1 a1
    have HFA := hide (fun (X : World) (h : Sep F w X (([sdI Bs s] ++ [blkI g 39 #[.int .i64 4, .int .i64 R, .int .i64 Q, .int .i64 k, .int .i64 n]]) ++ [blkI (g + 1) 107 #[.bool bv, .int .i64 mv]])) (hc : s.cols = C2) => show Sep F w X [sdI Bs (s.col C2)] from by
      rw [← hc]
      exact h.sub (List.sublist_append_left [_] [_, _]))
    clear hS4 HS0
    cases bv with
    | false =>
      have HEQ := hide (show s.cols = C2 from by rw [← HC2.out]; unfold barS; rw [if_neg (by simp [whiteB])])
      go_wp2_with fail
      go_quiet (fail)
      go_wp2_with fail
      go_end0
      exact ⟨⟨_, rfl⟩, HFA.out _ (HS4.out.drewN _) HEQ.out⟩
    | true =>
      obtain ⟨z, hz0, hz⟩ := HVQ.out rfl
      dsimp only at hz0
      subst hz0
      obtain ⟨k0, k1, _, k3, _, _⟩ := HCL.out _ (HS4.out.get 0 rfl) z hz
      obtain ⟨-, j1, j2, -, -, j5⟩ := HCL.out _ (HS4.out.get 0 rfl) i (by rw [HCNN.out]; exact HIC.out)
      have j6 : gc ≠ Bs := fun e => j5 e.symm
      have hwb : whiteB s.cols ((true, (z : Int)) : Val) = decide (s.cols.getD z 0 = 0) := by unfold whiteB; simp
      have hbs := HC2.out
      unfold barS at hbs
      rw [hwb] at hbs
      obtain ⟨y, hy⟩ : ∃ y, s.cols.getD z 0 = y := ⟨_, rfl⟩
      obtain ⟨x, hx⟩ : ∃ x, s.cols.getD i 0 = x := ⟨_, rfl⟩
      rw [hy] at k1 hbs
      rw [hx] at j1 hbs
      rw [HCNN.out] at k0 hz
      have s1 : decide ((z : Int) < 0) = false := by simp
      have s2 : decide ((CN : Int) ≤ (z : Int)) = false := by simp; omega
      have hzi : z = i → y = x := fun e => by rw [← hy, ← hx, e]
      have HBS := hide hbs
      have HIC2 := HIC.out
      clear hwb hbs hy hx
      by_cases hy0 : y = 0
      · subst hy0
        by_cases hx2 : x = 2
        · subst hx2
          have hzi2 : z ≠ i := fun e => by cases hzi e
          have HST := hide (fun (X : World) (h : Sep F w X (([sdI Bs s] ++ [blkI g 39 #[.int .i64 4, .int .i64 R, .int .i64 Q, .int .i64 k, .int .i64 n]]) ++ [blkI (g + 1) 107 #[.bool true, .int .i64 z]])) => show Sep F w (X.setCell ⟨gc, i, none⟩ (.int .i64 1)) [sdI Bs (s.col C2)] from by
            have h1 := HBS.out
            rw [if_pos (by simp)] at h1
            rw [← h1]
            exact sd_store (h.sub (List.sublist_append_left [_] [_, _])) (z := i) HAC.out 1)
          clear hzi
          go_wp2_with fail
          go_quiet (fail)
          go_wp2_with fail
          go_end0
          exact ⟨⟨_, rfl⟩, HST.out _ (HS4.out.drewN _)⟩
        · have HEQ := hide (show s.cols = C2 from by have h1 := HBS.out; rw [if_neg (fun h => hx2 h.1)] at h1; exact h1)
          have x1 : (x == 2) = false := by simp [hx2]
          clear hzi hx2
          go_wp2_with fail
          go_quiet (fail)
          go_wp2_with fail
          go_end0
          exact ⟨⟨_, rfl⟩, HFA.out _ (HS4.out.drewN _) HEQ.out⟩
      · have HEQ := hide (show s.cols = C2 from by have h1 := HBS.out; rw [if_neg (fun h => hy0 (of_decide_eq_true h.2))] at h1; exact h1)
        have x1 : (y == 0) = false := by simp [hy0]
        clear hzi hy0
        go_wp2_with fail
        go_quiet (fail)
        go_wp2_with fail
        go_end0
        exact ⟨⟨_, rfl⟩, HFA.out _ (HS4.out.drewN _) HEQ.out⟩
end Go.Proofs.Ytjphckfbbiehdaa

namespace Go.Proofs.Ytjphckfbbiehdaa
open Go.RowKit

theorem rint_make (n : Nat) (hn : n ≤ 1000) : ∃ M : Array Value, M.toList = ints (List.replicate n 0) ∧ ∀ w : World, (Instr.makeSlice 35 (.int .i64 (n : Int)) (.int .i64 (n : Int))).run Try.prog w = .ok (.slice (some ⟨w.heap.size, 0, none⟩) n n) (w.alloc (.cells M 3)) := by
  refine ⟨madeCells #[.int .i64 0] n, ?_, fun w => Go.run_make_row' 35 3 (.int .i64 0) 8 Try.underlying35 rzInt rfl .i64 .i64 n (by omega) (by omega) w⟩
  have := rmadeInts n
  simpa [Value.cells] using this
set_option maxRecDepth 100000 in
set_option maxHeartbeats 4000000 in
theorem rbars_no {Bs : Nat} {s : SdS} {w : World} (hP : (sdI Bs s).P w) (d : DoV) (h4 : d.k ≠ 4) :
    Calls Try.prog 102 #[.pointer (some ⟨Bs, 0, none⟩), .agg d.cells] w fun e w' => (∃ u, e = .returned u) ∧ Below w.heap.size w w' := by
  obtain ⟨k, to_, fr, at_, n⟩ := d
  have hS0 := (Sep.start hP).blkAt 39 (DoV.cells ⟨k, to_, fr, at_, n⟩) (g := w.heap.size) rfl
  obtain ⟨b0, _, _, b3, _⟩ := sd_cells (hS0.get 0 rfl)
  unfold DoV.cells at b0 b3 ⊢
  dsimp only at h4 b0 b3 ⊢
  have y4 : (k == 4) = false := by simp [h4]
  have HB := hide ((Below.refl _ w).alloc (Nat.le_refl _) (.cells #[.int .i64 k, .int .i64 to_, .int .i64 fr, .int .i64 at_, .int .i64 n] 39))
  clear hS0 hP h4
  go_enter Try.func102, Try.ntmps102
  go_wp2_with fail
  go_end0
  exact ⟨⟨_, rfl⟩, HB.out⟩
def SdS.t (s : SdS) (gl : List Int) : RT := ⟨absR s.m, s.m.gone, s.cols, gl⟩
theorem rbars_any {q : Nat} (hq : q = 1 ∨ q = 2 ∨ q = 3) {Bs : Nat} {s : SdS} {w : World} (hP : (sdI Bs s).P w) (hs : s.q = q) (ok : ROk s.m) (hl : s.cols.length = s.m.obs.length) (d : DoV) (hw : rWrong d (absR s.m) = 0) (gl : List Int) :
    Calls Try.prog 102 #[.pointer (some ⟨Bs, 0, none⟩), .agg d.cells] w fun e w' => (∃ u, e = .returned u) ∧ Sep (sdI Bs s).fp w w' [sdI Bs (s.col (rtBars q d (s.t gl)))] := by
  unfold rtBars
  by_cases h4 : d.k = 4
  · have hw1 : wrongM d = 0 := by
      unfold rWrong at hw
      by_cases h : wrongM d ≠ 0
      · rw [if_pos h] at hw; exact hw
      · exact not_ne h
    unfold rWrong at hw
    rw [if_neg (by rw [hw1]; simp), if_pos h4] at hw
    obtain ⟨k, to_, fr, at_, n⟩ := d
    dsimp only at h4 hw
    subst h4
    obtain ⟨R, rfl, hR⟩ := to_of hw1 (by decide)
    obtain ⟨Q, rfl, hQ⟩ := fr_of hw1 (by decide) (by decide)
    dsimp only
    rw [if_pos rfl, barOf_f]
    unfold DoV.cells
    rcases hq with rfl | rfl | rfl
    · rw [if_pos rfl]; exact rbars_1 hP hs ok hl R Q hR hQ at_ n hw
    · rw [if_neg (by decide), if_pos rfl]; exact rbars_2 hP hs ok hl R Q hR hQ at_ n hw
    · rw [if_neg (by decide), if_neg (by decide)]; exact rbars_3 hP hs ok hl R Q hR hQ at_ n hw
  · rw [if_neg h4]
    exact (rbars_no hP d h4).mono fun e w' ⟨h1, h2⟩ => ⟨h1, (Sep.start hP).below h2⟩
/-- What the memory does, in the whole. -/
theorem sd_call {F : Nat → Prop} {W w w' : World} {Bs : Nat} {s : SdS} {m' : RMem} {L : List Item} (h : Sep F W w (sdI Bs s :: L)) (h2 : Sep (rmI s.Bm s.m).fp w w' [rmI s.Bm m']) : Sep F W w' (sdI Bs { s with m := m' } :: L) := by
  have h1 : Sep F W w (sdR Bs s ++ L) := Sep.split (l := sdR Bs s) h
  have h3 := h1.call 2 rfl h2
  exact Sep.join (l := sdR Bs { s with m := m' }) h3
def RMem.setG (m : RMem) (j : Nat) : RMem := { m with gone := m.gone.set j true }
theorem rm_setG {Bm : Nat} {m : RMem} {w : World} (hP : (rmI Bm m).P w) {j gg : Nat} (hA : m.Ag = some ⟨gg, 0, none⟩) : Sep (rmI Bm m).fp w (w.setCell ⟨gg, j, none⟩ (.bool true)) [rmI Bm (m.setG j)] := by
  have hS : Sep (rmI Bm m).fp w w ([blkI Bm 176 #[.slice (some ⟨m.gr, 0, none⟩) m.regs.length m.cR, .slice m.Ao m.obs.length m.co, .slice m.Ag m.gone.length m.cg], rowI 107 2 (some ⟨m.gr, 0, none⟩) m.regs.length m.cR (vals m.regs), rowI 119 1 m.Ao m.obs.length m.co (m.obs.map Ob.val), rowI 4 1 m.Ag m.gone.length m.cg (bools m.gone)] ++ m.obs.map obI) := (Sep.start hP).flat
  have he : rowI 4 1 m.Ag m.gone.length m.cg (bools m.gone) = rowI 4 1 (some ⟨gg, 0, none⟩) m.gone.length m.cg (bools m.gone) := by rw [hA]
  rw [he] at hS
  have h1 := hS.store 3 (g := gg) rfl j (.bool true)
  refine Sep.fold (l := rmL Bm (m.setG j)) ?_
  unfold rmL RMem.setG
  dsimp only
  rw [List.length_set, show bools (m.gone.set j true) = (bools m.gone).set j (.bool true) from by simp [bools, List.map_set], hA]
  rw [hA] at h1
  exact h1
theorem goneL_snoc (gone : List Bool) (xs : List Int) (x : Int) : goneL gone (xs ++ [x]) = (goneL gone xs).set x.toNat true := by unfold goneL; rw [List.foldl_append]; rfl
/-- The memory, from what it is made of. -/
theorem sd_mk {F : Nat → Prop} {W w : World} {Bs Bm gc nO : Nat} {q : Int} {m : RMem} {M : Array Value} {L : List Item} (hM : M.toList = ints (List.replicate nO 0)) (hn : nO ≤ 1000)
    (h : Sep F W w (blkI Bs 218 #[.pointer (some ⟨Bm, 0, none⟩), .int .i64 q, .slice (some ⟨gc, 0, none⟩) nO nO] :: blkI gc 3 M :: rmI Bm m :: L)) : Sep F W w (sdI Bs ⟨Bm, m, q, some ⟨gc, 0, none⟩, nO, List.replicate nO 0⟩ :: L) := by
  have hms : M.size = nO := by
    have := congrArg List.length hM
    simpa [ints] using this
  have hr := rowI_of_blk (n := nO) (size := 1) (show Blk w gc 3 M from h.get 1 rfl) (by omega) (by unfold maxLen; omega)
  have h1 := h.step 1 rfl (Chg.refl _ _) (rowI 3 1 (some ⟨gc, 0, none⟩) nO nO M.toList) hr (fun g hg => .inl (by
    have : gc = g := by simpa [rowI, Value.ownBlock] using hg
    exact this.symm))
  rw [hM] at h1
  refine Sep.join (l := sdR Bs ⟨Bm, m, q, some ⟨gc, 0, none⟩, nO, List.replicate nO 0⟩) ?_
  unfold sdR sdC
  dsimp only
  rw [List.length_replicate]
  exact h1
/-- A script's state, at each deed. -/
theorem rt_at {q : Nat} (hq : q = 1 ∨ q = 2 ∨ q = 3) {σ : MSt} (hM : MOk σ) (ds : List DoV) (hn : σ.objs.length ≤ 24) (hd : ds.length ≤ 100) (k : Nat) (hk : k ≤ ds.length) :
    RtOk q (rtRun q (ds.take k) (rt0 σ)).2 ∧ (rtRun q (ds.take k) (rt0 σ)).2.σ.objs.length ≤ 24 + k ∧ (rtRun q (ds.take k) (rt0 σ)).1.length = k ∧ (rtRun q (ds.take k) (rt0 σ)).2.gl.length ≤ k * 200 := by
  have hlt : (ds.take k).length = k := by rw [List.length_take]; omega
  have h1 := rtRun_ok hq (ds.take k) (rt0_ok q hM (by omega)) (by rw [hlt]; show σ.objs.length + _ ≤ _; omega)
  obtain ⟨o1, o2, o3, o4⟩ := h1
  have h3 : (rt0 σ).σ.objs.length = σ.objs.length := rfl
  have h4 := co_goneN hq hM ds hn hd k hk
  rw [← rt0_a, o4] at h4
  exact ⟨o1, by omega, by rw [o3, hlt], h4⟩
theorem rtRun_at (q : Nat) (ds : List DoV) (t : RT) (k : Nat) (hk : k < ds.length) : rtRun q (ds.take (k + 1)) t = ((rtRun q (ds.take k) t).1 ++ [(rtStep q ds[k] (rtRun q (ds.take k) t).2).1], (rtStep q ds[k] (rtRun q (ds.take k) t).2).2) := by
  rw [List.take_succ_eq_append_getElem hk, rtRun_snoc]
theorem sd_ok {q : Nat} {s : SdS} {gl : List Int} (h : RtOk q (s.t gl)) (hn : (s.t gl).σ.objs.length ≤ 500) : ROk s.m ∧ s.cols.length = s.m.obs.length ∧ s.m.gone.length = s.cols.length := by
  have hps : (absR s.m).objs.length = s.m.obs.length := by simp [absR]
  have h1 : s.m.gone.length = (absR s.m).objs.length := h.len
  have h2 : s.cols.length = (s.t gl).a.objs.length := h.ok.cl
  rw [h.n] at h2
  have h3 : s.cols.length = (absR s.m).objs.length := h2
  have h4 : (absR s.m).objs.length ≤ 500 := hn
  exact ⟨⟨h.m, by omega, by omega⟩, by omega, by omega⟩
end Go.Proofs.Ytjphckfbbiehdaa
