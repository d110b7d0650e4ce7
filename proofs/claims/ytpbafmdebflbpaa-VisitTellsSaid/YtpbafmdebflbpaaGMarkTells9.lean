/- graph: the reference's Values and Graphs, at equals. arena: the program's Read. arena: the reference's Read. -/
import Derived.Test.YtpbafmdebflbpaaGMarkTells4
import Derived.Test.YtpbafmdebflbpaaGMarkTells8
set_option linter.unusedSimpArgs false
set_option linter.unusedVariables false
namespace Go.Proofs.Ytpbafmdebflbpaa
open Go.RowKit

set_option maxHeartbeats 800000 in
theorem values_same (w : World) (D D' : Nat → Prop) (A A' : Option Addr) (n c c' : Nat) (xs : List Val) (hn : n ≤ 9223372036854775807)
    (h : Rd w D 2 A n (vals xs)) (h' : Rd w D' 2 A' n (vals xs)) :
    Calls Try.prog 80 #[.slice A n c, .slice A' n c'] w fun e w' => e = .returned (.bool true) ∧ Below w.heap.size w w' := by
  have HL := hide (show xs.length = n by have := h.1; rw [vals_length] at this; omega)
  go_enter Try.func80, Try.ntmps80
  go_wp2_with fail
  go_loopw [5] (fun i wr => ∃ k : Nat, k ≤ n ∧ i = .int .i64 k ∧ Below w.heap.size w wr) (fun i _ => n - (intOf i).toNat)
  case atStart => exact ⟨0, by omega, rfl, Below.refl _ _⟩
  case round =>
    obtain ⟨k, hk, rfl, hB⟩ := hrel
    by_cases hlt : k < n
    · have hkl : k < xs.length := by rw [HL.out]; exact hlt
      obtain ⟨v1, v2⟩ := vals_at xs k hkl
      obtain ⟨ad, hA, _, had, hc, hd⟩ := (h.below hB).atN hlt
      obtain ⟨ad', hA', _, had', hc', hd'⟩ := (h'.below hB).atN hlt
      have e0 := hc _ v1
      have e1 := hc' _ v1
      have d0 := hd 0 _ v2
      have d1 := hd' 0 _ v2
      obtain ⟨⟨b, x⟩, hx⟩ : ∃ x, xs[k] = x := ⟨_, rfl⟩
      rw [hx] at e0 e1 d0 d1
      subst hA hA'
      clear hc hc' hd hd' hx v1 v2
      go_wp2_with fail
      go_quiet (fail)
      go_wp2_with fail
      go_roundw
      case rel => exact ⟨k + 1, by omega, by go_num, below_drewN hB _⟩
      case measure => simp [intOf]; omega
    · go_wp2_with fail
      go_ret
      exact ⟨rfl, hB⟩
set_option maxRecDepth 100000 in
set_option maxHeartbeats 4000000 in
theorem graphs_any (w : World) (D D' : Nat → Prop) (v v' : Value) (fss : List (List Val)) (roots : List Val) (hf : ∀ fs ∈ fss, fs.length ≤ 1000) (hfs : fss.length ≤ 1000) (hr : roots.length ≤ 1000) (h : GraphRd w D v fss roots) (h' : GraphRd w D' v' fss roots) :
    Calls Try.prog 39 #[v, v'] w fun e w' => e = .returned (.bool true) ∧ Below w.heap.size w w' := by
  obtain ⟨A1, n1, c1, A2, n2, c2, obs, rfl, f1, f3, f2⟩ := h.ex
  obtain ⟨B1, m1, d1, B2, m2, d2, obs', rfl, g1, g3, g2⟩ := h'.ex
  have l1 : n1 = fss.length := by rw [← f3, List.length_map]; exact f1.len.symm
  have l2 : m1 = fss.length := by rw [← g3, List.length_map]; exact g1.len.symm
  have k1 : n2 = roots.length := by have := f2.1; rw [vals_length] at this; omega
  have k2 : m2 = roots.length := by have := g2.1; rw [vals_length] at this; omega
  subst k1
  subst l1
  subst l2 k2
  have HF := hide (show ∀ (k : Nat) (hk : k < obs.length) (hk' : k < obs'.length), obs[k].fields = obs'[k].fields ∧ obs[k].fields.length ≤ 1000 by
    intro k hk hk'
    have e : (obs.map Ob.fields)[k]? = (obs'.map Ob.fields)[k]? := by rw [f3, g3]
    rw [List.getElem?_map, List.getElem?_map, List.getElem?_eq_getElem hk, List.getElem?_eq_getElem hk'] at e
    refine ⟨by simpa using e, hf _ ?_⟩
    rw [← f3]
    exact List.mem_map.2 ⟨_, List.getElem_mem hk, rfl⟩)
  have hB0 : Below w.heap.size w ((w.alloc (.cells #[.slice A1 fss.length c1, .slice A2 roots.length c2] 52)).alloc (.cells #[.slice B1 fss.length d1, .slice B2 roots.length d2] 52)) := ((Below.refl _ w).alloc (Nat.le_refl _) _).alloc (by simp) _
  have C1 := hide (values_same _ _ _ A2 B2 roots.length c2 d2 roots (by omega) (f2.below hB0) (g2.below hB0))
  have HB0 := hide hB0
  have b1 := (Blk.new w 52 #[.slice A1 fss.length c1, .slice A2 roots.length c2]).alloc (.cells #[.slice B1 fss.length d1, .slice B2 roots.length d2] 52)
  have b2 := Blk.new (w.alloc (.cells #[.slice A1 fss.length c1, .slice A2 roots.length c2] 52)) 52 #[.slice B1 fss.length d1, .slice B2 roots.length d2]
  rw [World.size_alloc] at b2
  have HB1 := hide b1
  have HB2 := hide b2
  have HL1 := hide f1.len
  have HL2 := hide g1.len
  obtain ⟨N, hN⟩ : ∃ N, fss.length = N := ⟨_, rfl⟩
  rw [hN] at f1 g1 HB1 HB2 HB0 C1 HL1 HL2 hfs ⊢
  clear b1 b2 hB0 f2 g2 f3 g3 h h' hf hN
  go_enter Try.func39, Try.ntmps39
  go_wp2_with fail
  refine C1.out.mono ?_
  rintro e w3 ⟨rfl, hB3⟩
  have hB4 := HB0.out.trans (hB3.mono (by simp; omega))
  have HC1 := hide (HB1.out.below_ hB3)
  have HC2 := hide (HB2.out.below_ hB3)
  have HB4 := hide hB4
  clear C1 HB0 hB3 HB1 HB2 hB4
  go_wp2_with fail
  go_loopw [5] (fun i wr => ∃ k : Nat, k ≤ N ∧ i = .int .i64 k ∧ Below w.heap.size w wr ∧ Blk wr w.heap.size 52 #[.slice A1 N c1, .slice A2 roots.length c2] ∧ Blk wr (w.heap.size + 1) 52 #[.slice B1 N d1, .slice B2 roots.length d2]) (fun i _ => N - (intOf i).toNat)
  case atStart => exact ⟨0, by omega, rfl, HB4.out, HC1.out, HC2.out⟩
  case round =>
    clear HB4 HC1 HC2
    obtain ⟨k, hk, rfl, hB, hG, hG'⟩ := hrel
    obtain ⟨i1, i2, i3⟩ := hG.rules
    obtain ⟨j1, j2, j3⟩ := hG'.rules
    have i4 : wr.cell? ⟨w.heap.size, 0, none⟩ = some (.slice A1 N c1) := by rw [i1]; rfl
    have j4 : wr.cell? ⟨w.heap.size + 1, 0, none⟩ = some (.slice B1 N d1) := by rw [j1]; rfl
    clear i1 j1
    by_cases hlt : k < N
    · have hkl : k < obs.length := by rw [HL1.out]; exact hlt
      have hkl' : k < obs'.length := by rw [HL2.out]; exact hlt
      obtain ⟨ad, hA, _, had, hc⟩ := (f1.below hB).row.at_ hlt
      obtain ⟨ad', hA', _, had', hc'⟩ := (g1.below hB).row.at_ hlt
      have e0 := hc obs[k].val (by simp [List.getElem?_eq_getElem hkl])
      have e1 := hc' obs'[k].val (by simp [List.getElem?_eq_getElem hkl'])
      obtain ⟨hff, hfl⟩ := HF.out k hkl hkl'
      have hE := (f1.below hB).each _ (List.getElem_mem hkl)
      have hE' := (g1.below hB).each _ (List.getElem_mem hkl')
      have hn := f1.flen (List.getElem_mem hkl)
      have hn' := g1.flen (List.getElem_mem hkl')
      obtain ⟨o, ho⟩ : ∃ o, obs[k] = o := ⟨_, rfl⟩
      obtain ⟨o', ho'⟩ : ∃ o, obs'[k] = o := ⟨_, rfl⟩
      rw [ho] at e0 hff hE hn hfl
      rw [ho'] at e1 hff hE' hn'
      rw [← hff] at hE' hn'
      unfold Ob.val at e0 e1
      subst hA hA'
      have hnn : o'.n = o.n := by omega
      rw [hnn] at e1 hE'
      have HE := hide hE
      have HE' := hide hE'
      have hno : o.n ≤ 1000 := by omega
      have HNO := hide hno
      clear hc hc' ho ho' hff hn hn' hnn hfl hE hE' hno
      go_wp2_with fail
      have HBW := hide hB
      have HGW := hide hG
      have HGW' := hide hG'
      go_region_law (first
        | (try go_simp
           go_at_call 80
           refine (values_same wr.drew _ _ o.A o'.A o.n o.c o'.c o.fields (by have := HNO.out; omega) (HE.out.keep (Nat.le_refl _) (fun _ _ _ => rfl)) (HE'.out.keep (Nat.le_refl _) (fun _ _ _ => rfl))).mono ?_
           rintro e w4 ⟨rfl, hB4⟩))
      all_goals
        go_wp2_with fail
        go_roundw
        case rel => exact ⟨k + 1, by omega, by go_num, (HBW.out.drew.trans (hB4.mono HBW.out.size)), HGW.out.drew.below_ hB4, HGW'.out.drew.below_ hB4⟩
        case measure => simp [intOf]; omega
    · go_wp2_with fail
      go_ret
      exact ⟨rfl, hB⟩
end Go.Proofs.Ytpbafmdebflbpaa

namespace Go.Proofs.Ytpbafmdebflbpaa
open Go.RowKit

theorem obs_snoc (l : List Ob) (o : Ob) : (l ++ [o]).map Ob.val = l.map Ob.val ++ [Value.slice o.A o.n o.c] := by simp [Ob.val]
theorem graphOf_take (ws : List Int) (l : List (Nat × Nat)) (k : Nat) (h : k < l.length) : (graphOf ws l).take (k + 1) = (graphOf ws l).take k ++ [(fieldsAt ws l[k]).map (turnW (ixOf l))] := by
  have h2 : k < (graphOf ws l).length := by unfold graphOf; rw [List.length_map]; exact h
  rw [List.take_succ_eq_append_getElem h2]
  simp [graphOf]

set_option maxRecDepth 100000 in
set_option maxHeartbeats 16000000 in
theorem read_ok (w : World) (AW AR : Option Addr) (nW cW nR cR : Nat) (ws rs : List Int) (hW : WsIn w AW nW cW ws) (hR : WsIn w AR nR cR rs) (hz : acheck nW nR ws rs = 0) :
    Calls Try.prog 38 #[.agg #[.slice AW nW cW, .slice AR nR cR]] w fun e w' => ∃ v, e = .returned (.tuple #[v, .int .i64 0]) ∧ Below w.heap.size w w' ∧
      GraphRd w' (fun g => w.heap.size ≤ g) v (graphOf ws (parse nW ws 0).1) (rs.map (turnW (ixOf (parse nW ws 0).1))) := by
  obtain ⟨h1, h2, h3, h4⟩ := acheck_zero hz
  have hwl := hW.len
  have hrl := hR.len
  have HPM := hide (fun p hp => parse_mem nW ws 0 p (fun x hx => (hW.wf x hx).1) hp)
  have HG := hide (good_of_check h4)
  have HRISE := hide (places_rise nW ws)
  have hS0 := ((Sep.nil No w).blkAt 55 #[.slice AW nW cW, .slice AR nR cR] rfl).blkAt 52 #[.slice none 0 0, .slice none 0 0] (g := w.heap.size + 1) (by simp)
  obtain ⟨a1, a2, a3, a4⟩ := hS0.rules 0 (g := w.heap.size) (t := 55) rfl
  have HS0 := hide hS0
  have C1 := hide (arenaCheck_any _ AW AR nW cW nR cR ws rs (hW.below hS0.below_) (hR.below hS0.below_))
  rw [hz] at C1
  have C2 := hide (fun w' (hb : Below w.heap.size w w') => begins_any w' AW AR nW cW nR cR ws (hW.below hb) h1 h3)
  obtain ⟨pre, hpre⟩ : ∃ pre, (parse nW ws 0).1 = pre := ⟨_, rfl⟩
  rw [hpre] at HPM HG HRISE C2 ⊢
  have HWL := hide hwl
  have HRL := hide hrl
  clear hS0 h3 h4 hz hpre hwl hrl
  go_enter Try.func38, Try.ntmps38
  go_wp2_with fail
  refine C1.out.mono ?_
  rintro e w1 ⟨rfl, hb1⟩
  have hS1 := HS0.out.below hb1
  have HS1 := hide hS1
  clear a1 a2 a3 a4
  obtain ⟨a1, a2, a3, a4⟩ := hS1.rules 0 (g := w.heap.size) (t := 55) rfl
  go_wp2_with fail
  refine (C2.out _ hS1.below_).mono ?_
  rintro e w2 ⟨As, ns, cs, rfl, hns, hP⟩
  have hpl : pre.length = ns := by have := (hP.rd_ 0 rfl).1; simpa [ints, placesOf] using this
  have hS2 := HS1.out.snocNew hP.below_ _ (hP.get 0 rfl) (fun g hg => (hP.lo 0 rfl g hg).resolve_left (fun h => h))
  have hS3 := hS2.blkAt 40 #[.slice As ns cs] rfl
  have hS4 : Sep No w _ [blkI w.heap.size 55 #[.slice AW nW cW, .slice AR nR cR], blkI (w.heap.size + 1) 52 #[.slice none 0 0, .slice none 0 0], rowI 3 1 As ns cs (ints (placesOf pre)), blkI w2.heap.size 40 #[.slice As ns cs]] := hS3
  have HS4 := hide hS4
  have C3 := hide (readv_any _ w2.heap.size AR As nR cR ns cs rs (placesOf pre) (ixOf pre) (by omega) (by omega) ((hR.below hS4.below_).rd) hR.wf (fun x hx => HG.out.e x (List.mem_append_left _ hx)) (hS4.rd_ 2 rfl) (hS4.get 3 rfl)
    (fun i j a b h1 h2 h3 => HRISE.out i j a b h1 h2 h3) (fun x hx hr => by have := HG.out.ix x (List.mem_append_left _ hx) hr; rw [hpl] at this; exact this))
  have HPL := hide hpl
  clear a1 a2 a3 a4 hS1 hS2 hS3 hS4 hb1 C1 C2 hP HS0 HS1 hpl
  have hq := HS4.out
  obtain ⟨a1, a2, a3, a4⟩ := hq.rules 0 (g := w.heap.size) (t := 55) rfl
  clear hq
  go_wp2_with fail
  refine C3.out.mono ?_
  rintro e w3 ⟨Ar, cr, rfl, hP⟩
  have hS5 := ((HS4.out.snocNew hP.below_ _ (hP.get 0 rfl) (fun g hg => (hP.lo 0 rfl g hg).resolve_left (fun h => h))).blkAt 52 #[.slice none 0 0, .slice Ar nR cr] rfl).nilRow0 110 1
  have HS5 := hide hS5
  obtain ⟨b1, b2, b3, b4⟩ := hS5.rules 4 (g := w2.heap.size) (t := 40) rfl
  have b5 : (w3.alloc (.cells #[.slice none 0 0, .slice Ar nR cr] 52)).cell? ⟨w2.heap.size, 0, none⟩ = some (.slice As ns cs) := by rw [b1]; rfl
  clear a1 a2 a3 a4 hS5 HS4 hP C3 b1
  go_wp2_with fail
  clear b2 b3 b4 b5
  go_loopw [26] (fun i wr => ∃ (k : Nat) (AO : Option Addr) (cO : Nat) (obs : List Ob), k ≤ ns ∧ i = .int .i64 k ∧ Hid (obs.map Ob.fields = (graphOf ws pre).take k) ∧
    Sep No w wr (rowI 110 1 AO k cO (obs.map Ob.val) :: blkI w.heap.size 55 #[.slice AW nW cW, .slice AR nR cR] :: blkI (w.heap.size + 1) 52 #[.slice none 0 0, .slice none 0 0] :: rowI 3 1 As ns cs (ints (placesOf pre)) :: blkI w2.heap.size 40 #[.slice As ns cs] :: rowI 32 2 Ar nR cr (vals (rs.map (turnW (ixOf pre)))) :: blkI w3.heap.size 52 #[.slice AO k cO, .slice Ar nR cr] :: obs.map obI)) (fun i _ => ns - (intOf i).toNat)
  case atStart => exact ⟨0, none, 0, [], by omega, rfl, by simp [Hid], HS5.out⟩
  case round =>
    clear HS5
    obtain ⟨k, AO, cO, obs, hk, rfl, HO, hS⟩ := hrel
    by_cases hlt : k < ns
    · have hkl : k < pre.length := by rw [HPL.out]; exact hlt
      obtain ⟨ad, hA, _, had, hc⟩ := (hS.rd_ 3 rfl).at_ hlt
      have e0 := hc (.int .i64 pre[k].1) (by simp [ints, placesOf, List.getElem?_eq_getElem hkl])
      have hpm := HPM.out _ (List.getElem_mem hkl)
      have HT := hide (graphOf_take ws pre k hkl)
      have hgood := HG.out.sub (ys := fieldsAt ws pre[k]) (fun x hx => List.mem_append_right _ (List.mem_flatMap.2 ⟨_, List.getElem_mem hkl, hx⟩))
      obtain ⟨⟨at_, len⟩, hp⟩ : ∃ p, pre[k] = p := ⟨_, rfl⟩
      rw [hp] at e0 hpm HT hgood
      obtain ⟨q1, q2, q3, q4⟩ := hpm
      rw [HWL.out] at q4
      have hl4 : len ≤ 4 := by have := q2.1; omega
      have hsub : ∀ x ∈ fieldsAt ws (at_, len), x ∈ ws := fun x hx => List.mem_of_mem_drop (List.mem_of_mem_take hx)
      have F1 := hide (fun w' (hb : Below w.heap.size w w') => fields_any w' AW nW cW at_ len ws (hW.below hb) h1 q2 q3 q4)
      have F2 := hide (fun w' A c (hb : Rd w' (fun _ => True) 1 A len (u64s (fieldsAt ws (at_, len)))) (hs : Rd w' (fun _ => True) 1 As ns (ints (placesOf pre))) (hbl : Blk w' w2.heap.size 40 #[.slice As ns cs]) => readv_any w' w2.heap.size A As len c ns cs (fieldsAt ws (at_, len)) (placesOf pre) (ixOf pre) (by omega) (by omega) hb (fun x hx => hW.wf x (hsub x hx)) hgood.e hs hbl (fun i j a b h1 h2 h3 => HRISE.out i j a b h1 h2 h3) (fun x hx hr => by have := hgood.ix x hx hr; rw [HPL.out] at this; exact this))
      obtain ⟨i1, i2, i3, i4⟩ := hS.rules 1 (g := w.heap.size) (t := 55) rfl
      obtain ⟨j1, j2, j3, j4⟩ := hS.rules 6 (g := w3.heap.size) (t := 52) rfl
      have i5 : wr.cell? ⟨w.heap.size, 0, none⟩ = some (.slice AW nW cW) := by rw [i1]; rfl
      have j5 : wr.cell? ⟨w3.heap.size, 0, none⟩ = some (.slice AO k cO) := by rw [j1]; rfl
      subst hA
      dsimp only at e0
      have HH := hide (show (fieldsAt ws (at_, len)).length = (fieldsAt ws (at_, len)).length from rfl)
      clear hc hp q1 q2 q3 q4 hsub hgood i1 j1 i4 j4 HH
      go_wp2_with fail
      have HS := hide hS
      clear hS had e0 hkl h1 h2
      go_region_law (first
        | (refine step_app1 (cs := #[.slice A5 len c5]) rfl (.tmp 31) (.tmp 39) 49 rfl (F := No) (W := w) sObj (items := _ :: _ :: _ :: _ :: _ :: _ :: _ :: _) hS5 0 (n := k) rfl rfl rfl (by simp) rfl rfl (by omega) ?_
           intro A7 c7 w7 hS7 hC7
           obtain ⟨z1, z2, z3, z4⟩ := hS7.rules 6 (g := w3.heap.size) (t := 52) rfl
           (have z5 : w7.cell? ⟨w3.heap.size, 0, none⟩ = some (.slice AO k cO) := by rw [z1]; rfl)
           clear z1 z4 hC7)
        | (try go_simp
           go_at_call 79
           refine (F1.out wr.drew HS.out.drew.below_).mono ?_
           rintro e w4 ⟨A4, c4, rfl, hb4, hR4⟩
           have hS4 := HS.out.drew.below hb4
           obtain ⟨y1, y2, y3, y4⟩ := hS4.rules 6 (g := w3.heap.size) (t := 52) rfl
           (have y5 : w4.cell? ⟨w3.heap.size, 0, none⟩ = some (.slice AO k cO) := by rw [y1]; rfl)
           clear y1 y4)
        | (try go_simp
           go_at_call 77
           refine (F2.out w4 A4 c4 (hR4.below hb4) (hS4.rd_ 3 rfl) (hS4.get 4 rfl)).mono ?_
           rintro e w5 ⟨A5, c5, rfl, hP5⟩
           have hS5 := hS4.snocNew hP5.below_ _ (hP5.get 0 rfl) (fun g hg => (hP5.lo 0 rfl g hg).resolve_left (fun h => h))
           obtain ⟨x1, x2, x3, x4⟩ := hS5.rules 6 (g := w3.heap.size) (t := 52) rfl
           (have x5 : w5.cell? ⟨w3.heap.size, 0, none⟩ = some (.slice AO k cO) := by rw [x1]; rfl)
           clear x1 x4))
      all_goals
        go_wp2_with fail
        go_roundw
        case rel =>
          refine ⟨k + 1, A7, c7, obs ++ [⟨A5, len, c5, (fieldsAt ws (at_, len)).map (turnW (ixOf pre))⟩], by omega, by go_num, ?_, ?_⟩
          · show _ = _
            rw [HT.out, ← HO.out]
            simp
          · rw [obs_snoc, List.map_append]
            exact hS7.set_ 6 (g := w3.heap.size) (t := 52) rfl 0 (.slice A7 (k + 1) c7)
        case measure => simp [intOf]; omega
    · obtain rfl : k = ns := by omega
      have hO2 : obs.map Ob.fields = graphOf ws pre := by
        rw [HO.out]; exact List.take_of_length_le (by unfold graphOf; rw [List.length_map, HPL.out]; omega)
      have HO2 := hide hO2
      obtain ⟨j1, j2, j3, j4⟩ := hS.rules 6 (g := w3.heap.size) (t := 52) rfl
      obtain ⟨y1, y2, y3, y4⟩ := hS.rules 2 (g := w.heap.size + 1) (t := 52) rfl
      have HS := hide hS
      clear hO2 hS HO
      go_wp2_with fail
      have hF := (HS.out.set_ 2 (g := w.heap.size + 1) (t := 52) rfl 0 (.slice AO k cO)).set_ 2 (g := w.heap.size + 1) (t := 52) rfl 1 (.slice Ar nR cr)
      refine bodyPost_ret (v := .tuple #[.agg #[.slice AO k cO, .slice Ar nR cr], .int .i64 0]) (by simp [results, Try.results38, go_sem, y1]) rfl ⟨_, rfl, hF.below_, ?_⟩
      refine ⟨_, _, _, _, _, _, obs, rfl, obs_read hF (fun o ho => ?_) 0 rfl, HO2.out, hF.rd 5 rfl⟩
      simp only [List.set_cons_succ, List.set_cons_zero, List.mem_cons, List.mem_map]
      exact .inr (.inr (.inr (.inr (.inr (.inr (.inr ⟨o, ho, rfl⟩))))))

set_option maxRecDepth 100000 in
set_option maxHeartbeats 4000000 in
theorem read_any (w : World) (AW AR : Option Addr) (nW cW nR cR : Nat) (ws rs : List Int) (hW : WsIn w AW nW cW ws) (hR : WsIn w AR nR cR rs) :
    Calls Try.prog 38 #[.agg #[.slice AW nW cW, .slice AR nR cR]] w fun e w' => ∃ v, e = .returned (.tuple #[v, .int .i64 (acheck nW nR ws rs)]) ∧ Below w.heap.size w w' ∧
      GraphRd w' (fun g => w.heap.size ≤ g) v (if acheck nW nR ws rs = 0 then graphOf ws (parse nW ws 0).1 else []) (if acheck nW nR ws rs = 0 then rs.map (turnW (ixOf (parse nW ws 0).1)) else []) := by
  by_cases h : acheck nW nR ws rs = 0
  · simp only [h, if_true]
    exact read_ok w AW AR nW cW nR cR ws rs hW hR h
  · simp only [h, if_false]
    obtain ⟨x, hx⟩ : ∃ x, acheck nW nR ws rs = x := ⟨_, rfl⟩
    have hS0 := ((Sep.nil No w).blkAt 55 #[.slice AW nW cW, .slice AR nR cR] rfl).blkAt 52 #[.slice none 0 0, .slice none 0 0] (g := w.heap.size + 1) (by simp)
    obtain ⟨a1, a2, a3, a4⟩ := hS0.rules 0 (g := w.heap.size) (t := 55) rfl
    have HS0 := hide hS0
    have C1 := hide (arenaCheck_any _ AW AR nW cW nR cR ws rs (hW.below hS0.below_) (hR.below hS0.below_))
    rw [hx] at C1 h ⊢
    have y1 : (x != 0) = true := by rw [bne_iff_ne]; exact h
    clear hS0 hx h
    go_enter Try.func38, Try.ntmps38
    go_wp2_with fail
    refine C1.out.mono ?_
    rintro e w1 ⟨rfl, hb1⟩
    have hS1 := HS0.out.below hb1
    have HS1 := hide hS1
    clear a1 a2 a3 a4
    obtain ⟨q1, q2, q3, q4⟩ := hS1.rules 1 (g := w.heap.size + 1) (t := 52) rfl
    clear hS1
    go_wp2_with fail
    have hF := (HS1.out.set_ 1 (g := w.heap.size + 1) (t := 52) rfl 0 (.slice none 0 0)).set_ 1 (g := w.heap.size + 1) (t := 52) rfl 1 (.slice none 0 0)
    refine bodyPost_ret (v := .tuple #[.agg #[.slice none 0 0, .slice none 0 0], .int .i64 x]) (by simp [results, Try.results38, go_sem, q1]) rfl ⟨_, rfl, hF.below_, GraphRd.nil _ _⟩
end Go.Proofs.Ytpbafmdebflbpaa

namespace Go.Proofs.Ytpbafmdebflbpaa
open Go.RowKit

set_option maxRecDepth 100000 in
set_option maxHeartbeats 16000000 in
theorem refRead_any (w : World) (AW AR : Option Addr) (nW cW nR cR : Nat) (ws rs : List Int) (hW : WsIn w AW nW cW ws) (hR : WsIn w AR nR cR rs) (hz : acheck nW nR ws rs = 0) :
    Calls Try.prog 42 #[.agg #[.slice AW nW cW, .slice AR nR cR]] w fun e w' => ∃ v, e = .returned v ∧ Below w.heap.size w w' ∧
      GraphRd w' (fun g => w.heap.size ≤ g) v (graphOf ws (parse nW ws 0).1) (rs.map (turnW (ixOf (parse nW ws 0).1))) := by
  obtain ⟨h1, h2, h3, h4⟩ := acheck_zero hz
  have hwl := hW.len
  have hrl := hR.len
  have HPM := hide (fun p hp => parse_mem nW ws 0 p (fun x hx => (hW.wf x hx).1) hp)
  have HG := hide (good_of_check h4)
  have HRISE := hide (places_rise nW ws)
  have hS0 := ((Sep.nil No w).blkAt 55 #[.slice AW nW cW, .slice AR nR cR] rfl).blkAt 52 #[.slice none 0 0, .slice none 0 0] (g := w.heap.size + 1) (by simp)
  obtain ⟨a1, a2, a3, a4⟩ := hS0.rules 0 (g := w.heap.size) (t := 55) rfl
  have HS0 := hide hS0
  have C1 := hide (refStarts_any _ AW nW cW ws (hW.below hS0.below_) h1)
  rw [show startsOf nW ws = placesOf (parse nW ws 0).1 from if_pos h3] at C1
  rw [h3] at C1
  obtain ⟨pre, hpre⟩ : ∃ pre, (parse nW ws 0).1 = pre := ⟨_, rfl⟩
  rw [hpre] at HPM HG HRISE C1 ⊢
  have HWL := hide hwl
  have HRL := hide hrl
  clear hS0 h3 h4 hz hpre hwl hrl
  go_enter Try.func42, Try.ntmps42
  go_wp2_with fail
  refine C1.out.mono ?_
  rintro e w1 ⟨As, ns, cs, rfl, hns, hP⟩
  have hpl : pre.length = ns := by have := (hP.rd_ 0 rfl).1; simpa [ints, placesOf] using this
  have hS2 := HS0.out.snocNew hP.below_ _ (hP.get 0 rfl) (fun g hg => (hP.lo 0 rfl g hg).resolve_left (fun h => h))
  have HS2 := hide hS2
  have C3 := hide (unpacked_any _ AR As nR cR ns cs rs (placesOf pre) (ixOf pre) (by omega) (by omega) ((hR.below hS2.below_).rd) hR.wf (fun x hx => HG.out.e x (List.mem_append_left _ hx)) (hS2.rd_ 2 rfl)
    (fun i j a b h1 h2 h3 => HRISE.out i j a b h1 h2 h3) (fun x hx hr => by have := HG.out.ix x (List.mem_append_left _ hx) hr; rw [hpl] at this; exact this))
  have HPL := hide hpl
  clear a1 a2 a3 a4 hP HS0 hpl C1
  obtain ⟨a1, a2, a3, a4⟩ := hS2.rules 0 (g := w.heap.size) (t := 55) rfl
  clear hS2
  go_wp2_with fail
  refine C3.out.mono ?_
  rintro e w3 ⟨Ar, cr, rfl, hP⟩
  have hS5 := ((HS2.out.snocNew hP.below_ _ (hP.get 0 rfl) (fun g hg => (hP.lo 0 rfl g hg).resolve_left (fun h => h))).blkAt 52 #[.slice none 0 0, .slice Ar nR cr] rfl).nilRow0 110 1
  have HS5 := hide hS5
  clear a1 a2 a3 a4 hS5 HS2 hP C3
  go_wp2_with fail
  go_loopw [21] (fun i wr => ∃ (k : Nat) (AO : Option Addr) (cO : Nat) (obs : List Ob), k ≤ ns ∧ i = .int .i64 k ∧ Hid (obs.map Ob.fields = (graphOf ws pre).take k) ∧
    Sep No w wr (rowI 110 1 AO k cO (obs.map Ob.val) :: blkI w.heap.size 55 #[.slice AW nW cW, .slice AR nR cR] :: blkI (w.heap.size + 1) 52 #[.slice none 0 0, .slice none 0 0] :: rowI 3 1 As ns cs (ints (placesOf pre)) :: rowI 32 2 Ar nR cr (vals (rs.map (turnW (ixOf pre)))) :: blkI w3.heap.size 52 #[.slice AO k cO, .slice Ar nR cr] :: obs.map obI)) (fun i _ => ns - (intOf i).toNat)
  case atStart => exact ⟨0, none, 0, [], by omega, rfl, by simp [Hid], HS5.out⟩
  case round =>
    clear HS5
    obtain ⟨k, AO, cO, obs, hk, rfl, HO, hS⟩ := hrel
    by_cases hlt : k < ns
    · have hkl : k < pre.length := by rw [HPL.out]; exact hlt
      obtain ⟨ad, hA, _, had, hc⟩ := (hS.rd_ 3 rfl).at_ hlt
      have e0 := hc (.int .i64 pre[k].1) (by simp [ints, placesOf, List.getElem?_eq_getElem hkl])
      have hpm := HPM.out _ (List.getElem_mem hkl)
      have HT := hide (graphOf_take ws pre k hkl)
      have hgood := HG.out.sub (ys := fieldsAt ws pre[k]) (fun x hx => List.mem_append_right _ (List.mem_flatMap.2 ⟨_, List.getElem_mem hkl, hx⟩))
      obtain ⟨⟨at_, len⟩, hp⟩ : ∃ p, pre[k] = p := ⟨_, rfl⟩
      rw [hp] at e0 hpm HT hgood
      obtain ⟨q1, q2, q3, q4⟩ := hpm
      rw [HWL.out] at q4
      have hl4 : len ≤ 4 := by have := q2.1; omega
      have hsub : ∀ x ∈ fieldsAt ws (at_, len), x ∈ ws := fun x hx => List.mem_of_mem_drop (List.mem_of_mem_take hx)
      have F1 := hide (fun w' (hb : Below w.heap.size w w') => refFields_any w' AW nW cW at_ len ws (hW.below hb) h1 q2 q3 q4)
      have F2 := hide (fun w' A c (hb : Rd w' (fun _ => True) 1 A len (u64s (fieldsAt ws (at_, len)))) (hs : Rd w' (fun _ => True) 1 As ns (ints (placesOf pre))) => unpacked_any w' A As len c ns cs (fieldsAt ws (at_, len)) (placesOf pre) (ixOf pre) (by omega) (by omega) hb (fun x hx => hW.wf x (hsub x hx)) hgood.e hs (fun i j a b h1 h2 h3 => HRISE.out i j a b h1 h2 h3) (fun x hx hr => by have := hgood.ix x hx hr; rw [HPL.out] at this; exact this))
      obtain ⟨i1, i2, i3, i4⟩ := hS.rules 1 (g := w.heap.size) (t := 55) rfl
      obtain ⟨j1, j2, j3, j4⟩ := hS.rules 5 (g := w3.heap.size) (t := 52) rfl
      have i5 : wr.cell? ⟨w.heap.size, 0, none⟩ = some (.slice AW nW cW) := by rw [i1]; rfl
      have j5 : wr.cell? ⟨w3.heap.size, 0, none⟩ = some (.slice AO k cO) := by rw [j1]; rfl
      subst hA
      dsimp only at e0
      clear hc hp q1 q2 q3 q4 hsub hgood i1 j1 i4 j4
      go_wp2_with fail
      have HS := hide hS
      clear hS had e0 hkl h1 h2
      go_region_law (first
        | (refine step_app1 (cs := #[.slice A5 len c5]) rfl (.tmp 26) (.tmp 34) 49 rfl (F := No) (W := w) sObj (items := _ :: _ :: _ :: _ :: _ :: _ :: _) hS5 0 (n := k) rfl rfl rfl (by simp) rfl rfl (by omega) ?_
           intro A7 c7 w7 hS7 hC7
           obtain ⟨z1, z2, z3, z4⟩ := hS7.rules 5 (g := w3.heap.size) (t := 52) rfl
           (have z5 : w7.cell? ⟨w3.heap.size, 0, none⟩ = some (.slice AO k cO) := by rw [z1]; rfl)
           clear z1 z4 hC7)
        | (try go_simp
           go_at_call 66
           refine (F1.out wr.drew HS.out.drew.below_).mono ?_
           rintro e w4 ⟨A4, c4, rfl, hP4⟩
           have hS4 := HS.out.drew.below hP4.below_
           obtain ⟨y1, y2, y3, y4⟩ := hS4.rules 5 (g := w3.heap.size) (t := 52) rfl
           (have y5 : w4.cell? ⟨w3.heap.size, 0, none⟩ = some (.slice AO k cO) := by rw [y1]; rfl)
           clear y1 y4)
        | (try go_simp
           go_at_call 81
           refine (F2.out w4 A4 c4 (hP4.rd_ 0 rfl) (hS4.rd_ 3 rfl)).mono ?_
           rintro e w5 ⟨A5, c5, rfl, hP5⟩
           have hS5 := hS4.snocNew hP5.below_ _ (hP5.get 0 rfl) (fun g hg => (hP5.lo 0 rfl g hg).resolve_left (fun h => h))
           obtain ⟨x1, x2, x3, x4⟩ := hS5.rules 5 (g := w3.heap.size) (t := 52) rfl
           (have x5 : w5.cell? ⟨w3.heap.size, 0, none⟩ = some (.slice AO k cO) := by rw [x1]; rfl)
           clear x1 x4))
      all_goals
        go_wp2_with fail
        go_roundw
        case rel =>
          refine ⟨k + 1, A7, c7, obs ++ [⟨A5, len, c5, (fieldsAt ws (at_, len)).map (turnW (ixOf pre))⟩], by omega, by go_num, ?_, ?_⟩
          · show _ = _
            rw [HT.out, ← HO.out]
            simp
          · rw [obs_snoc, List.map_append]
            exact hS7.set_ 5 (g := w3.heap.size) (t := 52) rfl 0 (.slice A7 (k + 1) c7)
        case measure => simp [intOf]; omega
    · obtain rfl : k = ns := by omega
      have hO2 : obs.map Ob.fields = graphOf ws pre := by
        rw [HO.out]; exact List.take_of_length_le (by unfold graphOf; rw [List.length_map, HPL.out]; omega)
      have HO2 := hide hO2
      obtain ⟨j1, j2, j3, j4⟩ := hS.rules 5 (g := w3.heap.size) (t := 52) rfl
      obtain ⟨y1, y2, y3, y4⟩ := hS.rules 2 (g := w.heap.size + 1) (t := 52) rfl
      have HS := hide hS
      clear hO2 hS HO
      go_wp2_with fail
      have hF := (HS.out.set_ 2 (g := w.heap.size + 1) (t := 52) rfl 0 (.slice AO k cO)).set_ 2 (g := w.heap.size + 1) (t := 52) rfl 1 (.slice Ar nR cr)
      refine bodyPost_ret (v := .agg #[.slice AO k cO, .slice Ar nR cr]) (by simp [results, Try.results42, go_sem, y1]) rfl ⟨_, rfl, hF.below_, ?_⟩
      refine ⟨_, _, _, _, _, _, obs, rfl, obs_read hF (fun o ho => ?_) 0 rfl, HO2.out, hF.rd 4 rfl⟩
      simp only [List.set_cons_succ, List.set_cons_zero, List.mem_cons, List.mem_map]
      exact .inr (.inr (.inr (.inr (.inr (.inr ⟨o, ho, rfl⟩)))))
end Go.Proofs.Ytpbafmdebflbpaa
