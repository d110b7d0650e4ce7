/- graph: the reference's Values and Graphs, at equals. -/
import Derived.Test.YtpbafmdebflbpaaGrE
namespace Go.Proofs.Ytpbafmdebflbpaa
open Go.RowKit

set_option maxHeartbeats 800000 in
theorem values_same (w : World) (D D' : Nat → Prop) (A A' : Option Addr) (n c c' : Nat) (xs : List Val) (hn : n ≤ 9223372036854775807)
    (h : Rd w D 2 A n (vals xs)) (h' : Rd w D' 2 A' n (vals xs)) :
    Calls Try.prog 80 #[.slice A n c, .slice A' n c'] w fun e w' => e = .returned (.bool true) ∧ Below w.heap.size w w' := by
  have HL := hide (show xs.length = n by have := h.1; rw [vals_length] at this; omega)
  go_enter Try.func80, Try.ntmps80
  go_wp2_with fail
  go_loopw [5] (fun i wr => ∃ k : Nat, k ≤ n ∧ i = .int .i64 k ∧ Below w.heap.size w wr) (fun i _ => n - (intOf i).toNat)
  case atStart => exact ⟨0, by omega, rfl, Below.refl _ _⟩
  case round =>
    obtain ⟨k, hk, rfl, hB⟩ := hrel
    by_cases hlt : k < n
    · have hkl : k < xs.length := by rw [HL.out]; exact hlt
      obtain ⟨v1, v2⟩ := vals_at xs k hkl
      obtain ⟨ad, hA, _, had, hc, hd⟩ := (h.below hB).atN hlt
      obtain ⟨ad', hA', _, had', hc', hd'⟩ := (h'.below hB).atN hlt
      have e0 := hc _ v1
      have e1 := hc' _ v1
      have d0 := hd 0 _ v2
      have d1 := hd' 0 _ v2
      obtain ⟨⟨b, x⟩, hx⟩ : ∃ x, xs[k] = x := ⟨_, rfl⟩
      rw [hx] at e0 e1 d0 d1
      subst hA hA'
      clear hc hc' hd hd' hx v1 v2
      go_wp2_with fail
      go_quiet (fail)
      go_wp2_with fail
      go_roundw
      case rel => exact ⟨k + 1, by omega, by go_num, below_drewN hB _⟩
      case measure => simp [intOf]; omega
    · go_wp2_with fail
      go_ret
      exact ⟨rfl, hB⟩
set_option maxRecDepth 100000 in
set_option maxHeartbeats 4000000 in
theorem graphs_any (w : World) (D D' : Nat → Prop) (v v' : Value) (fss : List (List Val)) (roots : List Val) (hf : ∀ fs ∈ fss, fs.length ≤ 1000) (hfs : fss.length ≤ 1000) (hr : roots.length ≤ 1000) (h : GraphRd w D v fss roots) (h' : GraphRd w D' v' fss roots) :
    Calls Try.prog 39 #[v, v'] w fun e w' => e = .returned (.bool true) ∧ Below w.heap.size w w' := by
  obtain ⟨A1, n1, c1, A2, n2, c2, obs, rfl, f1, f3, f2⟩ := h.ex
  obtain ⟨B1, m1, d1, B2, m2, d2, obs', rfl, g1, g3, g2⟩ := h'.ex
  have l1 : n1 = fss.length := by rw [← f3, List.length_map]; exact f1.len.symm
  have l2 : m1 = fss.length := by rw [← g3, List.length_map]; exact g1.len.symm
  have k1 : n2 = roots.length := by have := f2.1; rw [vals_length] at this; omega
  have k2 : m2 = roots.length := by have := g2.1; rw [vals_length] at this; omega
  subst k1
  subst l1
  subst l2 k2
  have HF := hide (show ∀ (k : Nat) (hk : k < obs.length) (hk' : k < obs'.length), obs[k].fields = obs'[k].fields ∧ obs[k].fields.length ≤ 1000 by
    intro k hk hk'
    have e : (obs.map Ob.fields)[k]? = (obs'.map Ob.fields)[k]? := by rw [f3, g3]
    rw [List.getElem?_map, List.getElem?_map, List.getElem?_eq_getElem hk, List.getElem?_eq_getElem hk'] at e
    refine ⟨by simpa using e, hf _ ?_⟩
    rw [← f3]
    exact List.mem_map.2 ⟨_, List.getElem_mem hk, rfl⟩)
  have hB0 : Below w.heap.size w ((w.alloc (.cells #[.slice A1 fss.length c1, .slice A2 roots.length c2] 52)).alloc (.cells #[.slice B1 fss.length d1, .slice B2 roots.length d2] 52)) := ((Below.refl _ w).alloc (Nat.le_refl _) _).alloc (by simp) _
  have C1 := hide (values_same _ _ _ A2 B2 roots.length c2 d2 roots (by omega) (f2.below hB0) (g2.below hB0))
  have HB0 := hide hB0
  have b1 := (Blk.new w 52 #[.slice A1 fss.length c1, .slice A2 roots.length c2]).alloc (.cells #[.slice B1 fss.length d1, .slice B2 roots.length d2] 52)
  have b2 := Blk.new (w.alloc (.cells #[.slice A1 fss.length c1, .slice A2 roots.length c2] 52)) 52 #[.slice B1 fss.length d1, .slice B2 roots.length d2]
  rw [World.size_alloc] at b2
  have HB1 := hide b1
  have HB2 := hide b2
  have HL1 := hide f1.len
  have HL2 := hide g1.len
  obtain ⟨N, hN⟩ : ∃ N, fss.length = N := ⟨_, rfl⟩
  rw [hN] at f1 g1 HB1 HB2 HB0 C1 HL1 HL2 hfs ⊢
  clear b1 b2 hB0 f2 g2 f3 g3 h h' hf hN
  go_enter Try.func39, Try.ntmps39
  go_wp2_with fail
  refine C1.out.mono ?_
  rintro e w3 ⟨rfl, hB3⟩
  have hB4 := HB0.out.trans (hB3.mono (by simp; omega))
  have HC1 := hide (HB1.out.below_ hB3)
  have HC2 := hide (HB2.out.below_ hB3)
  have HB4 := hide hB4
  clear C1 HB0 hB3 HB1 HB2 hB4
  go_wp2_with fail
  go_loopw [5] (fun i wr => ∃ k : Nat, k ≤ N ∧ i = .int .i64 k ∧ Below w.heap.size w wr ∧ Blk wr w.heap.size 52 #[.slice A1 N c1, .slice A2 roots.length c2] ∧ Blk wr (w.heap.size + 1) 52 #[.slice B1 N d1, .slice B2 roots.length d2]) (fun i _ => N - (intOf i).toNat)
  case atStart => exact ⟨0, by omega, rfl, HB4.out, HC1.out, HC2.out⟩
  case round =>
    clear HB4 HC1 HC2
    obtain ⟨k, hk, rfl, hB, hG, hG'⟩ := hrel
    obtain ⟨i1, i2, i3⟩ := hG.rules
    obtain ⟨j1, j2, j3⟩ := hG'.rules
    have i4 : wr.cell? ⟨w.heap.size, 0, none⟩ = some (.slice A1 N c1) := by rw [i1]; rfl
    have j4 : wr.cell? ⟨w.heap.size + 1, 0, none⟩ = some (.slice B1 N d1) := by rw [j1]; rfl
    clear i1 j1
    by_cases hlt : k < N
    · have hkl : k < obs.length := by rw [HL1.out]; exact hlt
      have hkl' : k < obs'.length := by rw [HL2.out]; exact hlt
      obtain ⟨ad, hA, _, had, hc⟩ := (f1.below hB).row.at_ hlt
      obtain ⟨ad', hA', _, had', hc'⟩ := (g1.below hB).row.at_ hlt
      have e0 := hc obs[k].val (by simp [List.getElem?_eq_getElem hkl])
      have e1 := hc' obs'[k].val (by simp [List.getElem?_eq_getElem hkl'])
      obtain ⟨hff, hfl⟩ := HF.out k hkl hkl'
      have hE := (f1.below hB).each _ (List.getElem_mem hkl)
      have hE' := (g1.below hB).each _ (List.getElem_mem hkl')
      have hn := f1.flen (List.getElem_mem hkl)
      have hn' := g1.flen (List.getElem_mem hkl')
      obtain ⟨o, ho⟩ : ∃ o, obs[k] = o := ⟨_, rfl⟩
      obtain ⟨o', ho'⟩ : ∃ o, obs'[k] = o := ⟨_, rfl⟩
      rw [ho] at e0 hff hE hn hfl
      rw [ho'] at e1 hff hE' hn'
      rw [← hff] at hE' hn'
      unfold Ob.val at e0 e1
      subst hA hA'
      have hnn : o'.n = o.n := by omega
      rw [hnn] at e1 hE'
      have HE := hide hE
      have HE' := hide hE'
      have hno : o.n ≤ 1000 := by omega
      have HNO := hide hno
      clear hc hc' ho ho' hff hn hn' hnn hfl hE hE' hno
      go_wp2_with fail
      have HBW := hide hB
      have HGW := hide hG
      have HGW' := hide hG'
      go_region_law (first
        | (try go_simp
           go_at_call 80
           refine (values_same wr.drew _ _ o.A o'.A o.n o.c o'.c o.fields (by have := HNO.out; omega) (HE.out.keep (Nat.le_refl _) (fun _ _ _ => rfl)) (HE'.out.keep (Nat.le_refl _) (fun _ _ _ => rfl))).mono ?_
           rintro e w4 ⟨rfl, hB4⟩))
      all_goals
        go_wp2_with fail
        go_roundw
        case rel => exact ⟨k + 1, by omega, by go_num, (HBW.out.drew.trans (hB4.mono HBW.out.size)), HGW.out.drew.below_ hB4, HGW'.out.drew.below_ hB4⟩
        case measure => simp [intOf]; omega
    · go_wp2_with fail
      go_ret
      exact ⟨rfl, hB⟩
end Go.Proofs.Ytpbafmdebflbpaa
