/- A memory that counts, plain: what the reference's goings keep. The reference of a memory that counts: how often an object is referred to. The reference of a memory that counts: an object goes. -/
import Derived.Test.YtjphckfbbiehdaaGCountPlays1
import Derived.Test.YtjphckfbbiehdaaGIdealPlays6
import Derived.Test.YtjphckfbbiehdaaGTriPlays9
import Derived.Test.YtjphckfbbiehdaaGTriPlays7
set_option linter.unusedSimpArgs false
set_option linter.unusedVariables false
namespace Go.Proofs.Ytjphckfbbiehdaa
open Go.RowKit

def crA (s : RMem) (gl : List Int) : CrA := ⟨absR s, s.gone, gl⟩
theorem goes_keep {n : Nat} {t : CrA} {i : Nat} (ok : CrOk t) (hg : t.gone[i]? = some false) (h0 : pts i t.σ = 0) (hn : t.ng ≤ n) : CrOk (goesN n t i) ∧ CrKp t (goesN n t i) :=
  have h := goes_ok n _ t i ok (SimC.exists t) hg h0 hn
  ⟨h.1, h.2.1⟩
theorem lose_keep {n : Nat} {t : CrA} (ok : CrOk t) {v : Val} (hv : v.1 = true → ∃ z : Nat, v.2 = (z : Int) ∧ t.gone[z]? = some false) (hn : t.ng ≤ n) : CrOk (loseW (goesN n) t v) ∧ CrKp t (loseW (goesN n) t v) := by
  unfold loseW
  by_cases h : v.1 = false ∨ 0 < pts v.2.toNat t.σ
  · rw [if_pos h]; exact ⟨ok, CrKp.refl t⟩
  · rw [if_neg h]
    have hb : v.1 = true := by
      cases hc : v.1
      · exact absurd (.inl hc) h
      · rfl
    obtain ⟨z, e, hz⟩ := hv hb
    rw [e, Int.toNat_natCast] at h ⊢
    exact goes_keep ok hz (by
      have : ¬ 0 < pts z t.σ := fun h2 => h (.inr h2)
      omega) hn
/-- What holds within a going. -/
structure CrIn (n i m : Nat) (t : CrA) : Prop where
  ok : CrOk t
  g : t.gone[i]? = some true
  n : t.ng ≤ n
  l : (obA t.σ.objs (i : Int)).length = m
theorem CrIn.zero {n i m k : Nat} {t : CrA} (h : CrIn n i m t) (hk : k < m) :
    CrOk (t.zero i k) ∧ (((obA t.σ.objs (i : Int)).getD k (false, 0)).1 = true → ∃ z : Nat, ((obA t.σ.objs (i : Int)).getD k (false, 0)).2 = (z : Int) ∧ z < t.σ.objs.length ∧ t.gone[z]? = some false) ∧ (t.zero i k).σ.objs.length = t.σ.objs.length ∧ (obA (t.zero i k).σ.objs (i : Int)).length = m := by
  have hl := h.l
  have hkl : k < (obA t.σ.objs (i : Int)).length := by omega
  have hob : obA t.σ.objs (i : Int) = (obA t.σ.objs (i : Int)).take k ++ (obA t.σ.objs (i : Int))[k] :: (obA t.σ.objs (i : Int)).drop (k + 1) := by rw [← List.drop_eq_getElem_cons hkl, List.take_append_drop]
  have hpl : ((obA t.σ.objs (i : Int)).take k).length = k := by rw [List.length_take]; omega
  obtain ⟨k1, k3, k4, k5, k6⟩ := cr_zero h.ok h.g hob
  rw [hpl] at k1 k3 k4 k5
  have hgd : (obA t.σ.objs (i : Int)).getD k (false, 0) = (obA t.σ.objs (i : Int))[k] := by rw [List.getD_eq_getElem?_getD, List.getElem?_eq_getElem hkl]; rfl
  rw [hgd]
  refine ⟨k1, fun hb => ?_, k5, ?_⟩
  · have h1 := (h.ok.m.ob (i : Int)).1 _ (List.getElem_mem hkl) hb
    obtain ⟨z, e⟩ := int_nat h1.1
    have hz : z < t.σ.objs.length := by omega
    refine ⟨z, e, hz, ?_⟩
    have h2 := k3 z
    rw [if_pos (refB_self hb e)] at h2
    cases h3 : t.gone[z]? with
    | none => rw [List.getElem?_eq_none_iff, h.ok.lg] at h3; omega
    | some b =>
      cases b
      · rfl
      · have := h.ok.th z h3; omega
  · rw [k4, List.length_append, hpl, List.length_cons, List.length_drop]; omega
theorem CrIn.next {n i m k : Nat} {t u : CrA} (h : CrIn n i m t) (hk : k < m) (ok : CrOk u) (kp : CrKp (t.zero i k) u) : CrIn n i m u :=
  ⟨ok, (kp.g i h.g).1, Nat.le_trans kp.m h.n, by rw [(kp.g i h.g).2]; exact (h.zero hk).2.2.2⟩
theorem CrIn.first {n i : Nat} {t : CrA} (ok : CrOk t) (hg : t.gone[i]? = some false) (h0 : pts i t.σ = 0) (hn : t.ng ≤ n + 1) : CrIn n i (obA t.σ.objs (i : Int)).length (t.mark i) := by
  have h1 := ng_mark hg
  have hil : i < t.gone.length := (List.getElem?_eq_some_iff.1 hg).1
  exact ⟨ok.mark h0, by show (t.gone.set i true)[i]? = _; rw [List.getElem?_set, if_pos rfl, if_pos hil], by omega, rfl⟩
theorem goesK_step {n i m k : Nat} {t : CrA} (h : CrIn n i m t) (hk : k < m) : CrIn n i m (goesK (goesN n) i t k) := by
  obtain ⟨h1, h2, _, _⟩ := h.zero hk
  obtain ⟨h3, h4⟩ := lose_keep (n := n) (t := t.zero i k) h1 (v := (obA t.σ.objs (i : Int)).getD k (false, 0)) (fun hb => by
    obtain ⟨z, e, _, hz⟩ := h2 hb
    exact ⟨z, e, hz⟩) h.n
  exact h.next hk h3 h4
theorem goesK_len {n i m k : Nat} {t : CrA} (h : CrIn n i m t) (hk : k < m) : (goesK (goesN n) i t k).σ.objs.length = t.σ.objs.length := by
  obtain ⟨h1, h2, h5, _⟩ := h.zero hk
  obtain ⟨_, h4⟩ := lose_keep (n := n) (t := t.zero i k) h1 (v := (obA t.σ.objs (i : Int)).getD k (false, 0)) (fun hb => by
    obtain ⟨z, e, _, hz⟩ := h2 hb
    exact ⟨z, e, hz⟩) h.n
  exact h4.n.trans h5
theorem ng_le (t : CrA) : t.ng ≤ t.gone.length := List.countP_le_length
end Go.Proofs.Ytjphckfbbiehdaa

namespace Go.Proofs.Ytjphckfbbiehdaa
open Go.RowKit

theorem occ_take {j k : Nat} {l : List Val} (hk : k < l.length) : occ j (l.take (k + 1)) = occ j (l.take k) + if refB j l[k] = true then 1 else 0 := by
  rw [List.take_succ_eq_append_getElem hk, occ_app, occ_cons, occ_nil, Nat.zero_add]
theorem ptsO_take {j k : Nat} {l : List (List Val)} (hk : k < l.length) : ptsO j (l.take (k + 1)) = ptsO j (l.take k) + occ j l[k] := by
  rw [List.take_succ_eq_append_getElem hk, ptsO_app]
theorem refB_int (j : Nat) (b : Bool) (m : Int) : refB j (b, m) = (b && (m == (j : Int))) := by
  unfold refB
  dsimp only
  congr 1

theorem rm_field_at {Bm : Nat} {s : RMem} {w : World} (hP : (rmI Bm s).P w) {i : Nat} {o : Ob} (h : s.obs[i]? = some o) {k : Nat} (hk : k < o.fields.length) : ∃ g2, o.A = some ⟨g2, 0, none⟩ ∧ w.cell? ⟨g2, k * 2, none⟩ = some (.bool o.fields[k].1) ∧ w.cell? ⟨g2, k * 2 + 1, none⟩ = some (.int .i64 o.fields[k].2) ∧ w.frozen? ⟨g2, k * 2, none⟩ = false ∧ w.frozen? ⟨g2, k * 2 + 1, none⟩ = false ∧ g2 < w.heap.size := by
  obtain ⟨hi, rfl⟩ := List.getElem?_eq_some_iff.1 h
  exact rm_field hP hi hk
set_option maxRecDepth 100000 in
set_option maxHeartbeats 8000000 in
theorem points_any {Bm : Nat} {s : RMem} {w : World} (hP : (rmI Bm s).P w) (h8 : s.regs.length = 8) (hn : s.obs.length ≤ 600) (h4 : ∀ o ∈ s.obs, o.n ≤ 4) (i : Nat) :
    Calls Try.prog 76 #[.pointer (some ⟨Bm, 0, none⟩), .int .i64 (i : Int)] w fun e w' => e = .returned (.int .i64 (pts i (absR s) : Int)) ∧ Below w.heap.size w w' := by
  have HPB := hide (fun (X : World) (hb : Below w.heap.size w X) => ((Sep.start hP).below hb).get 0 rfl)
  have HRL := hide h8
  have H4 := hide h4
  obtain ⟨m0, m1, _, m3, _⟩ := rm_mem hP
  rw [h8] at m0
  have HB0 := hide (Below.refl w.heap.size w)
  clear hP h8 h4
  go_enter Try.func76, Try.ntmps76
  go_wp2_with fail
  go_loopw [5, 17] (fun q r wr => ∃ k j : Nat, k ≤ 8 ∧ r = .int .i64 k ∧ q = .int .i64 j ∧ Hid (j = occ i (s.regs.take k)) ∧ Below w.heap.size w wr) (fun _ r _ => 8 - (intOf r).toNat)
  case atStart => exact ⟨0, 0, by omega, rfl, rfl, rfl, HB0.out⟩
  case round =>
    clear HB0
    obtain ⟨k, j, hk, rfl, rfl, HJ, hB⟩ := hrel
    have hj : j ≤ 8 := by
      have h1 := HJ.out
      have h2 := occ_le i (s.regs.take k)
      have h3 := HRL.out
      rw [List.length_take] at h2
      omega
    by_cases hlt : k < 8
    · have hkl : k < s.regs.length := by rw [HRL.out]; exact hlt
      obtain ⟨r0, r1, _, _, r4⟩ := rm_reg (HPB.out wr hB) HRL.out k hlt
      have hv2 := rgA_at (l := s.regs) hkl
      rw [List.getElem?_eq_getElem hkl] at hv2
      have hT := occ_take (j := i) hkl
      rw [Option.some.inj hv2, ← HJ.out] at hT
      obtain ⟨v, hv⟩ : ∃ v, rgA s.regs (k : Int) = v := ⟨_, rfl⟩
      rw [hv] at r0 r1 hT
      obtain ⟨bv, mv⟩ := v
      dsimp only at r0 r1
      have HB := hide (hB.alloc hB.size (.cells #[.bool bv, .int .i64 mv] 107))
      rw [refB_int] at hT
      have HT := hide hT
      clear hB hkl hv2 hT hv
      cases bv with
      | false =>
        go_wp2_with fail
        go_roundw
        case rel => exact ⟨k + 1, j, by omega, by go_num, rfl, by rw [HT.out]; exact hide rfl, HB.out⟩
        case measure => simp [intOf]; omega
      | true =>
        by_cases hm : mv = (i : Int)
        · subst hm
          go_wp2_with fail
          go_roundw
          case rel => exact ⟨k + 1, j + 1, by omega, by go_num, by go_num, by rw [HT.out]; exact hide (by simp), HB.out⟩
          case measure => simp [intOf]; omega
        · have y1 : (mv == (i : Int)) = false := by simp [hm]
          have HY := hide y1
          clear hm
          go_wp2_with fail
          go_roundw
          case rel => exact ⟨k + 1, j, by omega, by go_num, rfl, by rw [HT.out, HY.out]; exact hide rfl, HB.out⟩
          case measure => simp [intOf]; omega
    · obtain rfl : k = 8 := by omega
      have h1 := HJ.out
      rw [List.take_of_length_le (by rw [HRL.out]; exact Nat.le_refl _)] at h1
      have HJ1 := hide h1
      obtain ⟨-, m1, _, m3, _⟩ := rm_mem (HPB.out wr hB)
      have HB1 := hide hB
      obtain ⟨N, hN⟩ : ∃ x, s.obs.length = x := ⟨_, rfl⟩
      have HN := hide hN
      rw [hN] at m1 hn
      obtain ⟨AO, hAO⟩ : ∃ x, s.Ao = x := ⟨_, rfl⟩
      have HAO := hide hAO
      rw [hAO] at m1
      have hj8 : j ≤ 8 := hj
      clear h1 hB HJ hN hAO
      go_wp2_with fail
      go_loopw [5, 37] (fun q r wr => ∃ k2 j2 : Nat, k2 ≤ N ∧ j2 ≤ 8 + 4 * k2 ∧ r = .int .i64 k2 ∧ q = .int .i64 j2 ∧ Hid (j2 = occ i s.regs + ptsO i ((absR s).objs.take k2)) ∧ Below w.heap.size w wr) (fun _ r _ => N - (intOf r).toNat)
      case atStart => exact ⟨0, j, by omega, by omega, rfl, rfl, by rw [← HJ1.out]; exact hide rfl, HB1.out⟩
      case round =>
        clear HB1 HJ1 hj8 hj
        obtain ⟨k2, j2, hk2, hj2, rfl, rfl, HJ, hB⟩ := hrel
        have hX := HPB.out wr hB
        by_cases hlt : k2 < N
        · have hi2 : k2 < s.obs.length := by rw [HN.out]; exact hlt
          obtain ⟨ga, hga, o1, o2⟩ := rm_ob hX hi2
          have hln := rm_len hX (List.getElem_mem hi2)
          have hn4 := H4.out _ (List.getElem_mem hi2)
          have hT : ptsO i ((absR s).objs.take (k2 + 1)) = ptsO i ((absR s).objs.take k2) + occ i s.obs[k2].fields := by
            have h := ptsO_take (j := i) (l := (absR s).objs) (k := k2) (by simpa [absR] using hi2)
            rw [h]
            simp [absR]
          have hoa : s.obs[k2]? = some s.obs[k2] := List.getElem?_eq_getElem hi2
          obtain ⟨o, ho⟩ : ∃ o, s.obs[k2] = o := ⟨_, rfl⟩
          rw [ho] at hoa
          have HFD := hide (fun (X : World) (hb : Below w.heap.size w X) (q : Nat) (hq : q < o.fields.length) => rm_field_at (HPB.out X hb) hoa hq)
          rw [ho] at o1 hln hn4 hT
          obtain ⟨oA, on, oc, fs⟩ := o
          dsimp only at o1 hln hn4 hT HFD
          rw [HAO.out] at hga
          subst hga
          have HT := hide hT
          have HL := hide hln
          have HB := hide (hB.alloc hB.size (.cells #[.slice oA on oc] 119))
          clear ho hoa hT hln hB hX hi2
          go_wp2_with fail
          go_loopw [5, 44] (fun q r wr => ∃ k3 j3 : Nat, k3 ≤ on ∧ j3 ≤ 8 + 4 * k2 + k3 ∧ r = .int .i64 k3 ∧ q = .int .i64 j3 ∧ Hid (j3 = j2 + occ i (fs.take k3)) ∧ Below w.heap.size w wr) (fun _ r _ => on - (intOf r).toNat)
          case atStart => exact ⟨0, j2, by omega, by omega, rfl, rfl, rfl, HB.out⟩
          case round =>
            clear HB o1 o2
            obtain ⟨k3, j3, hk3, hj3, rfl, rfl, HJ3, hB⟩ := hrel
            by_cases hlt3 : k3 < on
            · have hkl : k3 < fs.length := by rw [HL.out]; exact hlt3
              obtain ⟨g2, hA2, d1, d2, _, _, d5⟩ := HFD.out wr hB k3 hkl
              have hT3 := occ_take (j := i) hkl
              obtain ⟨v, hv⟩ : ∃ v, fs[k3] = v := ⟨_, rfl⟩
              rw [hv] at d1 d2 hT3
              obtain ⟨bv, mv⟩ := v
              dsimp only at d1 d2
              rw [refB_int] at hT3
              have HT3 := hide hT3
              have HB := hide (hB.alloc hB.size (.cells #[.bool bv, .int .i64 mv] 107))
              subst hA2
              clear hT3 hv hB hkl
              cases bv with
              | false =>
                go_wp2_with fail
                go_roundw
                case rel => exact ⟨k3 + 1, j3, by omega, by omega, by go_num, rfl, by rw [HT3.out]; exact HJ3, HB.out⟩
                case measure => simp [intOf]; omega
              | true =>
                by_cases hm : mv = (i : Int)
                · subst hm
                  go_wp2_with fail
                  go_roundw
                  case rel => exact ⟨k3 + 1, j3 + 1, by omega, by omega, by go_num, by go_num, by rw [HT3.out, HJ3.out]; exact hide (by simp; omega), HB.out⟩
                  case measure => simp [intOf]; omega
                · have y1 : (mv == (i : Int)) = false := by simp [hm]
                  have HY := hide y1
                  clear hm
                  go_wp2_with fail
                  go_roundw
                  case rel => exact ⟨k3 + 1, j3, by omega, by omega, by go_num, rfl, by rw [HT3.out, HY.out]; exact HJ3, HB.out⟩
                  case measure => simp [intOf]; omega
            · obtain rfl : k3 = on := by omega
              have h1 := HJ3.out
              rw [List.take_of_length_le (by rw [HL.out]; exact Nat.le_refl _)] at h1
              have HJ4 := hide h1
              have HB := hide hB
              clear h1 hB
              go_wp2_with fail
              go_roundw
              case rel => exact ⟨k2 + 1, j3, by omega, by omega, by go_num, rfl, by rw [HT.out, HJ4.out, HJ.out]; exact hide (by omega), HB.out⟩
              case measure => simp [intOf]; omega
        · obtain rfl : k2 = N := by omega
          have h1 := HJ.out
          rw [List.take_of_length_le (by simp [absR]; rw [HN.out]; exact Nat.le_refl _)] at h1
          have HJ4 := hide h1
          have HB := hide hB
          clear h1 hB hX
          go_wp2_with fail
          go_ret
          exact ⟨by rw [HJ4.out]; rfl, HB.out⟩
end Go.Proofs.Ytjphckfbbiehdaa

namespace Go.Proofs.Ytjphckfbbiehdaa
open Go.RowKit

def GGoes (n : Nat) : Prop := ∀ {F : Nat → Prop} {W0 w : World} {Bm : Nat} {s : RMem} {A : Option Addr} {c : Nat} {gl : List Int} {x : Item} {i : Nat}, Sep F W0 w [x, rmI Bm s, rowI 3 1 A gl.length c (ints gl)] → CrOk (crA s gl) → s.gone[i]? = some false → pts i (absR s) = 0 → (crA s gl).ng ≤ n → s.obs.length ≤ 600 → gl.length + (crA s gl).ng ≤ 1000 →
  Calls Try.prog 77 #[.pointer (some ⟨Bm, 0, none⟩), .int .i64 (i : Int), .slice A gl.length c] w fun e w' => ∃ (s' : RMem) (A' : Option Addr) (c' : Nat) (gl' : List Int), e = .returned (.slice A' gl'.length c') ∧ crA s' gl' = goesN n (crA s gl) i ∧ gl'.length + (crA s' gl').ng ≤ gl.length + (crA s gl).ng ∧ Sep F W0 w' [x, rmI Bm s', rowI 3 1 A' gl'.length c' (ints gl')]
def GLoses (n : Nat) : Prop := ∀ {F : Nat → Prop} {W0 w : World} {Bm : Nat} {s : RMem} {A : Option Addr} {c : Nat} {gl : List Int} {x : Item} {v : Val}, Sep F W0 w [x, rmI Bm s, rowI 3 1 A gl.length c (ints gl)] → CrOk (crA s gl) → (v.1 = true → ∃ z : Nat, v.2 = (z : Int) ∧ s.gone[z]? = some false) → (crA s gl).ng ≤ n → s.obs.length ≤ 600 → gl.length + (crA s gl).ng ≤ 1000 →
  Calls Try.prog 82 #[.pointer (some ⟨Bm, 0, none⟩), .agg #[.bool v.1, .int .i64 v.2], .slice A gl.length c] w fun e w' => ∃ (s' : RMem) (A' : Option Addr) (c' : Nat) (gl' : List Int), e = .returned (.slice A' gl'.length c') ∧ crA s' gl' = loseW (goesN n) (crA s gl) v ∧ gl'.length + (crA s' gl').ng ≤ gl.length + (crA s gl).ng ∧ Sep F W0 w' [x, rmI Bm s', rowI 3 1 A' gl'.length c' (ints gl')]
theorem cr_f4 {s : RMem} {gl : List Int} {w : World} {Bm : Nat} (hP : (rmI Bm s).P w) (ok : CrOk (crA s gl)) : ∀ o ∈ s.obs, o.n ≤ 4 := fun o ho => by
  have h1 := rm_len hP ho
  have h2 := ok.m.f4 o.fields (show o.fields ∈ s.obs.map Ob.fields from List.mem_map.2 ⟨o, ho, rfl⟩)
  omega

set_option maxRecDepth 100000 in
set_option maxHeartbeats 8000000 in
theorem gloses_of {n : Nat} (hG : GGoes n) : GLoses n := by
  intro F W0 w Bm s A c gl x v h ok hv hn hob hgl
  obtain ⟨g, hg⟩ : ∃ g, w.heap.size = g := ⟨_, rfl⟩
  have hS0 := h.blkAtF 107 #[.bool v.1, .int .i64 v.2] hg
  obtain ⟨W, hW⟩ : ∃ W, w.alloc (.cells #[.bool v.1, .int .i64 v.2] 107) = W := ⟨_, rfl⟩
  rw [hW] at hS0
  obtain ⟨x1, x2, x3, x4⟩ := hS0.rules 0 (g := g) (t := 107) rfl
  have x5 := (x1 0).trans (show _ = some (.bool v.1) from rfl)
  have x6 := (x1 1).trans (show _ = some (.int .i64 v.2) from rfl)
  obtain ⟨bv, mv⟩ := v
  dsimp only at hv x5 x6 hW hS0 ⊢
  obtain ⟨ln, hln⟩ : ∃ l, gl.length = l := ⟨_, rfl⟩
  cases bv with
  | false =>
    have HS := hide (show Sep F W0 W [x, rmI Bm s, rowI 3 1 A gl.length c (ints gl)] from hS0.sub (List.sublist_cons_self _ _))
    have HLN := hide hln
    rw [hln]
    clear h hS0 x1 hv ok hn hob hgl hln
    go_enter Try.func82, Try.ntmps82
    go_wp2_with fail
    go_ret
    exact ⟨s, A, c, gl, by rw [HLN.out]; rfl, by unfold loseW; rw [if_pos (.inl rfl)], by rw [HLN.out]; exact Nat.le_refl _, HS.out⟩
  | true =>
    obtain ⟨z, rfl, hz⟩ := hv rfl
    have C1 := hide (points_any (hS0.get 2 rfl) ok.m.r8 hob (cr_f4 (h.get 1 rfl) ok) z)
    have HS0 := hide hS0
    have HLN := hide hln
    have CG := hide (fun (h0 : pts z (absR s) = 0) (X : World) (hb : Sep F W0 X [x, rmI Bm s, rowI 3 1 A gl.length c (ints gl)]) => hG hb ok hz h0 hn hob hgl)
    rw [hln] at CG
    rw [hln]
    obtain ⟨p, hp⟩ : ∃ p, pts z (absR s) = p := ⟨_, rfl⟩
    have HP := hide hp
    rw [hp] at C1 CG
    clear h hS0 x1 hv ok hn hob hgl hln hp
    go_enter Try.func82, Try.ntmps82
    go_wp2_with fail
    refine C1.out.mono ?_
    rintro e w1 ⟨rfl, hb1⟩
    have hS1 := HS0.out.below hb1
    obtain ⟨x1, x2, x3, x4⟩ := hS1.rules 0 (g := g) (t := 107) rfl
    have x6 := (x1 1).trans (show _ = some (.int .i64 (z : Int)) from rfl)
    have HS1 := hide (show Sep F W0 w1 [x, rmI Bm s, rowI 3 1 A gl.length c (ints gl)] from hS1.sub (List.sublist_cons_self _ _))
    clear hS1 x1 HS0 C1 hb1
    by_cases h0 : p = 0
    · subst h0
      go_wp2_with fail
      refine (CG.out (by simp) _ (by rw [← HLN.out]; exact HS1.out)).mono ?_
      rintro e w2 ⟨s', A', c', gl', rfl, hab, hgb, hS2⟩
      have HF := hide (show ∃ (s2 : RMem) (A2 : Option Addr) (c2 : Nat) (gl2 : List Int), (.slice A' gl'.length c' : Value) = .slice A2 gl2.length c2 ∧ crA s2 gl2 = loseW (goesN n) (crA s gl) (true, (z : Int)) ∧ gl2.length + (crA s2 gl2).ng ≤ gl.length + (crA s gl).ng ∧ Sep F W0 w2 [x, rmI Bm s2, rowI 3 1 A2 gl2.length c2 (ints gl2)] from
        ⟨s', A', c', gl', rfl, by
          unfold loseW
          rw [if_neg (by
            intro h
            rcases h with h | h
            · cases h
            · have h1 : 0 < pts z (absR s) := h
              have := HP.out; omega)]
          exact hab, by rw [HLN.out]; exact hgb, hS2⟩)
      obtain ⟨l2, hl2⟩ : ∃ l, gl'.length = l := ⟨_, rfl⟩
      rw [hl2] at HF ⊢
      clear hab hgb hS2 CG
      go_wp2_with fail
      go_ret
      obtain ⟨s2, A2, c2, gl2, e1, e2, e3, e4⟩ := HF.out
      exact ⟨s2, A2, c2, gl2, congrArg _ e1, e2, by rw [← HLN.out]; exact e3, e4⟩
    · have t1 : decide ((0 : Int) < (p : Int)) = true := by simp; omega
      clear CG
      go_wp2_with fail
      go_ret
      exact ⟨s, A, c, gl, by rw [HLN.out]; rfl, by
        unfold loseW
        rw [if_pos (.inr (by show 0 < pts z (absR s); have := HP.out; omega))], by rw [HLN.out]; exact Nat.le_refl _, HS1.out⟩
theorem obA_absR {s : RMem} {i : Nat} (hi : i < s.obs.length) : obA (absR s).objs (i : Int) = s.obs[i].fields := by
  unfold obA absR
  rw [Int.toNat_natCast, List.getD_eq_getElem?_getD]; simp [List.getElem?_eq_getElem hi]
theorem crA_zero {s : RMem} {gl : List Int} {i k : Nat} (hi : i < s.obs.length) : crA (s.setO i k (false, 0) hi) gl = (crA s gl).zero i k := by
  unfold crA CrA.zero
  rw [absR_put]
  dsimp only
  rw [obA_absR hi]
  rfl
theorem goesL_succ (G : CrA → Nat → CrA) (i k : Nat) (t : CrA) : (List.range' 0 (k + 1)).foldl (goesK G i) t = goesK G i ((List.range' 0 k).foldl (goesK G i) t) k := by
  rw [List.range'_1_concat, List.foldl_append, Nat.zero_add]; rfl

set_option maxRecDepth 100000 in
set_option maxHeartbeats 16000000 in
theorem ggoes_of {n : Nat} (hL : GLoses n) : GGoes (n + 1) := by
  intro F W0 w Bm s A c gl x i h ok hg h0 hn hob hgl
  have hps : (absR s).objs.length = s.obs.length := by simp [absR]
  have hgi : i < s.gone.length := (List.getElem?_eq_some_iff.1 hg).1
  have hgl2 : s.gone.length = s.obs.length := ok.lg.trans hps
  have hi : i < s.obs.length := by omega
  obtain ⟨m0, m1, m2, m3, m4⟩ := rm_mem (h.get 1 rfl)
  obtain ⟨gg, hgg, hgl', g1, g2, g3⟩ := bools_at (rm_gone (h.get 1 rfl)) hgi
  obtain ⟨gb, hgb⟩ : ∃ b, s.gone[i] = b := ⟨_, rfl⟩
  rw [hgb] at g1
  have hS1 : Sep F W0 (w.setCell ⟨gg, i, none⟩ (.bool true)) [x, rmI Bm (s.setG i), rowI 3 1 A gl.length c (ints gl)] := h.call 1 rfl (rm_setG (h.get 1 rfl) hgg)
  have hin := CrIn.first (n := n) ok hg h0 hn
  obtain ⟨m, hm⟩ : ∃ m, (obA (crA s gl).σ.objs (i : Int)).length = m := ⟨_, rfl⟩
  have HM := hide hm
  rw [hm] at hin
  have hngm : (crA s gl).ng = ((crA s gl).mark i).ng + 1 := (ng_mark hg).symm
  have hm4 : m ≤ 4 := by rw [← hm]; exact (ok.m.ob (i : Int)).2
  have HI0 := hide (show crA (s.setG i) (gl ++ [(i : Int)]) = (crA s gl).mark i from rfl)
  have HIN := hide hin
  have HNG := hide hngm
  have HGL := hide hgl
  obtain ⟨N, hN⟩ : ∃ x, s.obs.length = x := ⟨_, rfl⟩
  have HN := hide (show (s.setG i).obs.length = N from hN)
  have HSG := hide hS1
  have hgln : gl.length ≤ 1000 := by omega
  rw [hgg, hgl2, hN] at m2
  rw [hN] at hi hob
  have hgB : gg ≠ Bm := fun e => (Sep.start (h.get 1 rfl)).flat.other (a := 3) (b := 0) rfl rfl (by omega) gg (by show (Value.slice s.Ag s.gone.length s.cg).ownBlock = some gg; rw [hgg]; rfl) e
  have hgB2 : Bm ≠ gg := fun e => hgB e.symm
  obtain ⟨ln, hln⟩ : ∃ l, gl.length = l := ⟨_, rfl⟩
  have HLN := hide hln
  have HL : Hid (GLoses n) := by exact hide hL
  rw [hln] at hgln HSG ⊢
  have t1 : decide ((i : Int) < 0) = false := by simp
  have t2 : decide ((N : Int) ≤ (i : Int)) = false := by simp; omega
  clear h ok hg h0 hn hgl hps hgi hgl2 hgg hgb hgl' hS1 hin hm hngm hN hln hL m0 m1
  go_enter Try.func77, Try.ntmps77
  go_wp2_with (first
    | (at_builtin
       refine wpList_app1 (cs := #[.int .i64 (i : Int)]) rfl (.tmp 15) (.tmp 17) 35 rfl (F := F) (W := W0) sInt (items := _ :: _ :: _) HSG.out 2 (n := ln) rfl rfl rfl (by simp) rfl rfl (by omega) ?_
       intro A7 c7 w7 hS7 hC7))
  have hS8 : Sep F W0 w7 [x, rmI Bm (s.setG i), rowI 3 1 A7 (gl ++ [(i : Int)]).length c7 (ints (gl ++ [(i : Int)]))] := by
    rw [List.length_append, List.length_singleton, HLN.out, show ints (gl ++ [(i : Int)]) = ints gl ++ [.int .i64 i] from by simp [ints]]
    exact hS7
  have HS8 := hide hS8
  have HL8 := hide (show (ln + 1 : Nat) = (gl ++ [(i : Int)]).length from by rw [List.length_append, List.length_singleton, HLN.out])
  clear hS7 hC7 hS8 HSG g1 g2 g3 m2 m3 m4
  go_loopw [2, 7] (fun q r wr => ∃ (k : Nat) (s' : RMem) (A' : Option Addr) (c' : Nat) (gl' : List Int), k ≤ m ∧ r = .int .i64 k ∧ q = .slice A' gl'.length c' ∧ Hid (crA s' gl' = (List.range' 0 k).foldl (goesK (goesN n) i) ((crA s gl).mark i) ∧ CrIn n i m (crA s' gl') ∧ s'.obs.length = N ∧ gl'.length + (crA s' gl').ng ≤ gl.length + (crA s gl).ng) ∧ Sep F W0 wr [x, rmI Bm s', rowI 3 1 A' gl'.length c' (ints gl')]) (fun _ r _ => m - (intOf r).toNat)
  case atStart =>
    refine ⟨0, s.setG i, A7, c7, gl ++ [(i : Int)], by omega, rfl, by rw [← HL8.out], hide ⟨HI0.out, by rw [HI0.out]; exact HIN.out, HN.out, ?_⟩, HS8.out⟩
    rw [HI0.out, ← HL8.out]
    have h1 := HNG.out
    have h2 := HLN.out
    omega
  case round =>
    clear HS8 HL8 HI0 HIN HN
    obtain ⟨k, s', A', c', gl', hk, rfl, rfl, HI, hS⟩ := hrel
    obtain ⟨hab, hin, hsn, hgb⟩ := HI.out
    have hi2 : i < s'.obs.length := by rw [hsn]; exact hi
    obtain ⟨_, m1, _, m3, _⟩ := rm_mem (hS.get 1 rfl)
    obtain ⟨ga, hga, o1, o2⟩ := rm_ob (hS.get 1 rfl) hi2
    have hln := rm_len (hS.get 1 rfl) (List.getElem_mem hi2)
    have hfm : s'.obs[i].fields.length = m := by rw [← obA_absR hi2]; exact hin.l
    have hnm : s'.obs[i].n = m := by omega
    rw [hga, hsn] at m1
    by_cases hlt : k < m
    · have hkf : k < s'.obs[i].fields.length := by omega
      obtain ⟨g2, hA2, d1, d2, d3, d4, d5⟩ := rm_field (hS.get 1 rfl) hi2 hkf
      obtain ⟨gd, hgd⟩ : ∃ x, wr.heap.size = x := ⟨_, rfl⟩
      have hz := hin.zero hlt
      have hvo : (obA (crA s' gl').σ.objs (i : Int)).getD k (false, 0) = s'.obs[i].fields[k] := by
        show (obA (absR s').objs (i : Int)).getD k (false, 0) = _
        rw [obA_absR hi2, List.getD_eq_getElem?_getD, List.getElem?_eq_getElem hkf]; rfl
      obtain ⟨v, hv⟩ : ∃ v, s'.obs[i].fields[k] = v := ⟨_, rfl⟩
      rw [hv] at d1 d2 hvo
      rw [hvo] at hz
      obtain ⟨hz1, hz2, hz3, hz4⟩ := hz
      have hS2 := hS.blkAtF 107 #[.bool v.1, .int .i64 v.2] hgd
      have hS3 := hS2.call 2 rfl (rm_setO (k := k) (hS2.get 2 rfl) hi2 hA2 (false, 0))
      have hS4 : Sep F W0 (((wr.alloc (.cells #[.bool v.1, .int .i64 v.2] 107)).setCell ⟨g2, k * 2, none⟩ (.bool false)).setCell ⟨g2, k * 2 + 1, none⟩ (.int .i64 0)) [x, rmI Bm (s'.setO i k (false, 0) hi2), rowI 3 1 A' gl'.length c' (ints gl')] := hS3.sub (List.sublist_cons_self _ _)
      have hgl3 := HGL.out
      obtain ⟨-, q1, -, q3, -⟩ := rm_mem (hS2.get 2 rfl)
      obtain ⟨ga', hga', p1, p2⟩ := rm_ob (hS2.get 2 rfl) hi2
      obtain rfl : ga = ga' := by rw [hga] at hga'; injection hga' with e; injection e with e
      obtain ⟨g2', hA2', b1, b2, b3, b4, b5⟩ := rm_field (hS2.get 2 rfl) hi2 hkf
      obtain rfl : g2 = g2' := by rw [hA2] at hA2'; injection hA2' with e; injection e with e
      rw [hga, hsn] at q1
      rw [hv] at b1 b2
      have C := hide (HL.out (v := v) hS4 (by rw [crA_zero hi2]; exact hz1) (fun hb => by obtain ⟨z, e, _, h⟩ := hz2 hb; exact ⟨z, e, h⟩) (by rw [crA_zero hi2]; exact hin.n) (by show (s'.obs.set i _).length ≤ 600; rw [List.length_set, hsn]; exact hob) (by rw [crA_zero hi2]; show gl'.length + (crA s' gl').ng ≤ 1000; omega))
      have HK := hide (show ∀ t, t = loseW (goesN n) (crA (s'.setO i k (false, 0) hi2) gl') v → t = (List.range' 0 (k + 1)).foldl (goesK (goesN n) i) ((crA s gl).mark i) ∧ CrIn n i m t ∧ t.σ.objs.length = N from by
        intro t ht
        have e : t = goesK (goesN n) i (crA s' gl') k := by rw [ht, crA_zero hi2]; unfold goesK; rw [hvo]
        rw [goesL_succ, ← hab]
        refine ⟨e, by rw [e]; exact goesK_step hin hlt, ?_⟩
        rw [e, goesK_len hin hlt, ← hsn]
        show (absR s').objs.length = _
        simp [absR])
      have HGB := hide (show ∀ a : Nat, a ≤ gl'.length + (crA (s'.setO i k (false, 0) hi2) gl').ng → a ≤ gl.length + (crA s gl).ng from fun a ha => by
        have h1 : (crA (s'.setO i k (false, 0) hi2) gl').ng = (crA s' gl').ng := rfl
        omega)
      have n1 : g2 ≠ gd := by omega
      have n2 : gd ≠ g2 := fun e => n1 e.symm
      have n3 : Bm ≠ gd := by omega
      have n4 : ga ≠ gd := by omega
      have n5 : gd ≠ Bm := by omega
      have n6 : gd ≠ ga := by omega
      obtain ⟨oC, hoC⟩ : ∃ x, s'.obs[i].c = x := ⟨_, rfl⟩
      rw [hA2, hnm, hoC] at o1 p1
      obtain ⟨s3, hs3⟩ : ∃ q, s'.setO i k (false, 0) hi2 = q := ⟨_, rfl⟩
      simp only [hs3] at C HK HGB
      obtain ⟨sco, hsco⟩ : ∃ q, s'.co = q := ⟨_, rfl⟩
      rw [hsco] at m1 q1
      obtain ⟨ll, hll⟩ : ∃ q, gl'.length = q := ⟨_, rfl⟩
      rw [hll] at C HGB ⊢
      obtain ⟨bv, mv⟩ := v
      dsimp only at d1 d2 C q1 q3 p1 p2 b1 b2 b3 b4 b5
      clear hga' hA2' hS hS2 hS3 hS4 hz1 hz2 hz3 hz4 hvo hv hgl3 hab hin hgb hsn hln hfm hnm hA2 hoC hkf hs3 hsco hll HI
      go_wp2_with fail
      refine C.out.mono ?_
      rintro e w5 ⟨s2, A2, c2, gl2, rfl, hab2, hgb2, hS5⟩
      have HS5 := hide hS5
      have HAB := hide (HK.out _ hab2)
      have HGB2 := hide (HGB.out _ hgb2)
      clear hS5 hab2 hgb2 C HK HGB
      obtain ⟨l2, hl2⟩ : ∃ q, gl2.length = q := ⟨_, rfl⟩
      have HL2 := hide hl2
      rw [hl2]
      clear hl2
      go_wp2_with fail
      go_roundw
      case rel => exact ⟨k + 1, s2, A2, c2, gl2, by omega, by go_num, by rw [HL2.out], hide ⟨HAB.out.1, HAB.out.2.1, by rw [← HAB.out.2.2]; show _ = (absR s2).objs.length; simp [absR], HGB2.out⟩, HS5.out⟩
      case measure => simp [intOf]; omega
    · obtain rfl : k = m := by omega
      have HF := hide (show crA s' gl' = goesN (n + 1) (crA s gl) i from by rw [hab, ← HM.out]; rfl)
      have HGB := hide hgb
      have HS := hide hS
      rw [hnm] at o1
      obtain ⟨oA, hoA⟩ : ∃ x, s'.obs[i].A = x := ⟨_, rfl⟩
      obtain ⟨oC, hoC⟩ : ∃ x, s'.obs[i].c = x := ⟨_, rfl⟩
      rw [hoA, hoC] at o1
      obtain ⟨sco, hsco⟩ : ∃ q, s'.co = q := ⟨_, rfl⟩
      rw [hsco] at m1
      obtain ⟨ll, hll⟩ : ∃ q, gl'.length = q := ⟨_, rfl⟩
      have HLL := hide hll
      rw [hll]
      clear hS hab hin hgb hsn hln hfm hnm hoA hoC hsco hll HI
      go_wp2_with fail
      go_ret
      exact ⟨s', A', c', gl', by rw [HLL.out]; rfl, HF.out, by rw [← HLN.out]; exact HGB.out, HS.out⟩
theorem ggoes_any : ∀ n, GGoes n := by
  intro n
  induction n with
  | zero =>
    intro F W0 w Bm s A c gl x i h ok hg h0 hn
    have := ng_mark (t := crA s gl) hg
    omega
  | succ n ih => exact ggoes_of (gloses_of ih)
theorem gloses_any (n : Nat) : GLoses n := gloses_of (ggoes_any n)
end Go.Proofs.Ytjphckfbbiehdaa
