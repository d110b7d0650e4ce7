/- graph.Found: what can be come to, as it is found, and how far each is. Maps from int64 to int64, of the call's own; where each of a list stands. The program's Renumber. -/
import Derived.Laws.EntriesVeiled
import Derived.Sort.LoopGhostIn
import Derived.Test.YtjphckfbbiehdaaGIdealPlays11
import Derived.Test.YtjphckfbbiehdaaGIdealPlays13
import Derived.Maps.OwnOps
import Derived.Maps.OwnSet
import Derived.Test.YtjphckfbbiehdaaGIdealPlays4
set_option linter.unusedSimpArgs false
set_option linter.unusedVariables false
namespace Go.Proofs.Ytjphckfbbiehdaa
open Go.RowKit Go.Shelf
attribute [local go_sem] Oper.semAt_some

theorem fInt : (Try.prog.info? 3).map (fun i => (i.zero, i.size, i.bytes)) = some (some (.int .i64 0), 1, 8) := by kernel_rfl
/-- Numbers, the first k of which are -1. -/
def negs (n k : Nat) : List Int := List.replicate k (-1) ++ List.replicate (n - k) 0
theorem negs_zero (n : Nat) : negs n 0 = List.replicate n 0 := by simp [negs]
theorem negs_end (n : Nat) : negs n n = List.replicate n (-1) := by simp [negs]
theorem negs_set (n k : Nat) (h : k < n) : (negs n k).set k (-1) = negs n (k + 1) := by
  unfold negs
  rw [List.set_append_right _ _ (by simp), List.length_replicate, Nat.sub_self, show n - k = (n - (k + 1)) + 1 from by omega, List.replicate_succ, List.set_cons_zero, List.replicate_succ', List.append_assoc]
  rfl

theorem own_addr' {w : World} {b e size n c : Nat} {A : Option Addr} {xs : List Value} (h : w.ownsRow b e size (.slice A n c) n xs) (hn : 0 < n) : ∃ g, A = some ⟨g, 0, none⟩ := by
  rcases h.2 with ⟨hv, _⟩ | ⟨g, cap, cur, hv, _⟩
  · injection hv with _ h1 _; omega
  · injection hv with h1 _ _; exact ⟨g, h1⟩
theorem ints_get' (l : List Int) (k : Nat) (h : k < l.length) : (ints l)[k]? = some (.int .i64 l[k]) := by simp [ints, List.getElem?_eq_getElem h]
theorem fnd_done (gs : List (List Val)) (f j : Nat) (σ : List Int × List Int) (h : ¬ j < σ.1.length) : fnd gs f j σ = σ := by
  cases f with
  | zero => rfl
  | succ f => unfold fnd; rw [if_neg h]
theorem fnd_step (gs : List (List Val)) (n j : Nat) (σ : List Int × List Int) (h : j < σ.1.length) (hj : j < n) : fnd gs (n - j) j σ = fnd gs (n - (j + 1)) (j + 1) (tkAll (σ.2.getD (σ.1.getD j 0).toNat 0 + 1) (fieldsI gs (σ.1.getD j 0)) σ) := by
  rw [show n - j = (n - (j + 1)) + 1 from by omega]
  conv => lhs; unfold fnd
  rw [if_pos h]
def tkI (t : Int) (xs : List Int) (σ : List Int × List Int) : List Int × List Int := tkAll t (xs.map fun x => (true, x)) σ
theorem tkI_tgts (t : Int) (vs : List Val) (σ : List Int × List Int) : tkI t (tgts vs) σ = tkAll t vs σ := by
  unfold tkI tgts
  induction vs generalizing σ with
  | nil => rfl
  | cons v vs ih =>
    obtain ⟨b, x⟩ := v
    cases b with
    | false =>
      rw [List.filterMap_cons_none (by simp), ih, tkAll_cons, tk1_no (.inl rfl)]
    | true =>
      rw [List.filterMap_cons_some (b := x) (by simp), List.map_cons, tkAll_cons, tkAll_cons, ih]
theorem tkI_snoc (t : Int) (xs : List Int) (x : Int) (σ : List Int × List Int) : tkI t (xs ++ [x]) σ = tk1 t (tkI t xs σ) (true, x) := by
  unfold tkI
  rw [List.map_append, List.map_cons, List.map_nil, tkAll_snoc]
theorem tgts_rng {n : Nat} {vs : List Val} (h : ValsOk n vs) {x : Int} (hx : x ∈ tgts vs) : 0 ≤ x ∧ x < (n : Int) := h _ (tgts_mem.1 hx) rfl
theorem tkI_ok {n : Nat} {t : Int} {vs : List Val} {σ : List Int × List Int} (hv : ValsOk n vs) (ht : 0 ≤ t ∧ t < n + 1) (h : FOk n σ) {xs : List Int} (hx : ∀ x ∈ xs, x ∈ tgts vs) : FOk n (tkI t xs σ) ∧ Tkn n t σ (tkI t xs σ) := by
  have hv2 : ValsOk n (xs.map fun x => ((true, x) : Val)) := fun v hv2 _ => by
    obtain ⟨x, hx2, rfl⟩ := List.mem_map.1 hv2
    exact tgts_rng hv (hx x hx2)
  exact ⟨(FOk.tkAll ht _ h hv2).1, Tkn.all ht _ h hv2⟩
theorem fdIt_tame (B Bd Bl gd n : Nat) (s : FdS) : Tame B (fdIt Bd Bl gd n s) := Tame.all fun i hi => by
  simp only [FdI, List.mem_cons, List.not_mem_nil, or_false] at hi
  rcases hi with rfl | rfl | rfl | rfl
  · exact Tame.row _ _ _ _ _ _ _
  · exact Tame.row _ _ _ _ _ _ _
  · exact Tame.blk _ _ _ _
  · exact Tame.blk _ _ _ _
theorem perm_fd {α : Type} (bg di bd bl bf bt rl : α) : [bg, di, bd, bl, bf, bt, rl].Perm [rl, di, bd, bl, bg, bf, bt] := by
  classical
  rw [List.perm_iff_count]
  intro x
  simp only [List.count_cons, List.count_nil]
  omega

set_option maxRecDepth 100000 in
set_option maxHeartbeats 2500000 in
theorem found_any (w : World) (AO AR : Option Addr) (nO cO nR cR : Nat) (obs : List Ob) (roots : List Val) (gs : List (List Val)) (hgs : obs.map Ob.fields = gs) (hO : ObsRd w (fun _ => True) AO nO obs) (hR : Rd w (fun _ => True) 2 AR nR (vals roots))
    (hnO : nO ≤ 1000) (hnR : nR ≤ 1000) (hF : ∀ o ∈ obs, o.n ≤ 1000) (hvg : ∀ fs ∈ gs, ValsOk gs.length fs) (hvr : ValsOk gs.length roots) :
    Calls Try.prog 110 #[.agg #[.slice AO nO cO, .slice AR nR cR]] w fun e w' => ∃ A n c A2 c2, e = .returned (.tuple #[.slice A n c, .slice A2 nO c2]) ∧
      Sep No w w' [rowI 3 1 A n c (ints (fndAll gs roots).1), rowI 3 1 A2 nO c2 (ints (fndAll gs roots).2)] := by
  have hS0 := (Sep.nil No w).blkAt 27 #[.slice AO nO cO, .slice AR nR cR] rfl
  obtain ⟨a1, a2, a3, a4⟩ := hS0.rules 0 (g := w.heap.size) (t := 27) rfl
  have a5 := a1 0
  have a6 := a1 1
  have HS0 := hide hS0
  have HGL := hide (show gs.length = nO by rw [← hgs, List.length_map]; exact hO.len)
  have HVR := hide hvr
  have HVG := hide hvg
  have HGS := hide hgs
  have HOO := hide (hO.more (D' := fun g => g < w.heap.size) (fun g hg _ => hg))
  have HFF := hide hF
  clear hS0 a1 a4 hvr hvg hgs hO hF
  refine (callsIn_wide (n := 10)).1 ?_
  refine callsIn_of_wp_calm Try.func110 rfl trivial ?_ rfl
  simp only [Try.ntmps110, List.size_toArray, List.length_cons, List.length_nil, Nat.reduceAdd, Nat.reduceSub, Array.replicate_succ, Array.replicate_zero, List.push_toArray, List.append_toArray, List.nil_append, List.cons_append]
  gi_wp2_with (first
    | (gi_at_make
       refine wpListIn_make rfl (.tmp 13) (.tmp 13) 35 rfl HS0.out Try.underlying35 fInt (by omega) .i64 .i64 nO rfl rfl (by omega) ?_
       intro w1 hS1 hb1
       rw [dMadeInts] at hS1
       have a5 : w1.cell? ⟨w.heap.size, 0, none⟩ = some (.slice AO nO cO) := by rw [(hS1.rules 0 (g := w.heap.size) (t := 27) rfl).1]; rfl
       have a6 : w1.cell? ⟨w.heap.size, 1, none⟩ = some (.slice AR nR cR) := by rw [(hS1.rules 0 (g := w.heap.size) (t := 27) rfl).1]; rfl
       have hsz1 := hb1.size
       rw [World.size_alloc] at hS1 hsz1))
  have hS2 := hS1.blkAt 35 #[.slice (some ⟨w.heap.size + 1, 0, none⟩) nO nO] rfl
  rw [← negs_zero] at hS2
  have HS2 := hide hS2
  clear hS1 hS2 hb1 HS0
  gi_loopw [17] (fun i wr => ∃ k : Nat, k ≤ nO ∧ i = .int .i64 k ∧ Sep No w wr [blkI w.heap.size 27 #[.slice AO nO cO, .slice AR nR cR], rowI 3 1 (some ⟨w.heap.size + 1, 0, none⟩) nO nO (ints (negs nO k)), blkI w1.heap.size 35 #[.slice (some ⟨w.heap.size + 1, 0, none⟩) nO nO]]) (fun i _ => nO - (intOf i).toNat)
  case atStart => exact ⟨0, by omega, rfl, HS2.out⟩
  case round =>
    clear HS2
    obtain ⟨k, hk, rfl, hS⟩ := hrel
    obtain ⟨b1, b2, b3, b4⟩ := hS.rules 2 (g := w1.heap.size) (t := 35) rfl
    have b5 := b1 0
    by_cases hlt : k < nO
    · have hrow : wr.ownsRow 0 3 1 (.slice (some ⟨w.heap.size + 1, 0, none⟩) nO nO) nO (ints (negs nO k)) := hS.get 1 rfl
      have hkl : k < (negs nO k).length := by simp [negs]; omega
      have e0 : wr.cell? ⟨w.heap.size + 1, k, none⟩ = some (.int .i64 (negs nO k)[k]) := by rw [hrow.cellAt k (by omega)]; simp [ints, List.getElem?_eq_getElem hkl]
      have e1 := hrow.frozenAt k
      have hS2 := hS.store 1 (g := w.heap.size + 1) rfl k (.int .i64 (-1))
      rw [ints_set_, negs_set nO k hlt] at hS2
      have HS2 := hide hS2
      obtain ⟨y, hy⟩ : ∃ y, (negs nO k)[k] = y := ⟨_, rfl⟩
      rw [hy] at e0
      clear hS hS2 hrow hkl hy b1 b4
      gi_wp2
      go_roundw
      case rel => exact ⟨k + 1, by omega, by go_num, HS2.out⟩
      case measure => simp [intOf]; omega
    · obtain rfl : k = nO := by omega
      rw [negs_end] at hS
      obtain ⟨q1, q2, q3, q4⟩ := hS.rules 0 (g := w.heap.size) (t := 27) rfl
      have q5 := q1 0
      have q6 := q1 1
      have hS2 := (((((hS.blkAt 35 #[.slice none 0 0] rfl).blkAt 139 #[.func (.func 163) #[] #[.pointer (some ⟨w1.heap.size, 0, none⟩), .pointer (some ⟨wr.heap.size, 0, none⟩)]] (g := wr.heap.size + 1) (by simp)).blkAt 25 #[.slice AR nR cR] (g := wr.heap.size + 2) (by simp)).nilRow 3 1).perm (perm_fd _ _ _ _ _ _ _)).join (l := [_, _, _, _])
      have HS := hide hS2
      have HRR := hide ((hR.more (D' := fun g => g < w.heap.size) (fun g hg _ => hg)).below hS2.below_)
      clear hS hS2 b1 b4 q1 q4
      gi_wp2_with (refine ⟨trivial, ?_⟩; gi_at_call 63; refine (targets_in Fence.wide 9 trivial rfl _ _ _ _).mono ?_; rintro e w2 ⟨rfl, rfl⟩)
      have hS2 := HS.out
      obtain ⟨g1, g2, g3, g4⟩ := hS2.rules 3 (g := wr.heap.size + 2) (t := 25) rfl
      refine wpIn_tgt (n := 10) rfl (by omega) trivial (wr.heap.size + 2) (by rfl) (by rfl) (fdIt w1.heap.size wr.heap.size (w.heap.size + 1) k) ⟨none, 0, 0, ([], List.replicate k (-1))⟩ hnR (hS2.get 3 rfl) (hS2.other (a := 3) (b := 0) rfl rfl (by omega) _ rfl) (HRR.out.more (fun g _ hg hf => by
          rcases hS2.lo 0 rfl g hf with h | h
          · exact h
          · omega))
        (fun pre s => FdOk s ∧ s.σ = tkI 0 pre ([], List.replicate k (-1))) (fun _ _ _ => False) (fun s => fdIt_tame _ _ _ _ _ s) ⟨rfl, rfl⟩ (hS2.get 0 rfl) ?a1 ?assign ?body ?done ?stop
      case assign =>
        intro l x W K hK
        gi_wp2
        exact hK
      case stop =>
        rintro Dd c pre s W hD hpre hF
        exact hF.elim
      case body =>
        rintro l pre x s W hx hpre hlen ⟨hok, hσ⟩ hP'
        have hSW := hS2.call 0 rfl hP'
        obtain ⟨f1, f2, f3, f4⟩ := hSW.rules 2 (g := wr.heap.size + 1) (t := 139) rfl
        have f5 := f1 0
        obtain ⟨t1, t2⟩ := tkI_ok (t := 0) (σ := ([], List.replicate k (-1))) HVR.out (by omega) (HGL.out ▸ FOk.zero gs.length) hpre
        rw [← hσ] at t1
        have hxr := tgts_rng HVR.out hx
        have hll := t1.ok.len
        have C := hide (take_any W w1.heap.size wr.heap.size (w.heap.size + 1) k s.A s.nl s.cl s.σ x 0 (hP'.get 0 rfl) hxr.1 (by have := HGL.out; omega) (by have := HGL.out; have := show s.nl = s.σ.1.length from hok; omega) (by rw [t1.len]; exact HGL.out) hok)
        have HT := hide (tkI_snoc 0 pre x ([], List.replicate k (-1)))
        have HSS := hide hσ
        clear hSW hP' hx hpre hlen hok hσ f1 f4 t1 t2 hxr hll hS2 g1 g2 g3 g4
        gi_wp2_with (refine ⟨trivial, ?_⟩; gi_at_call 163; refine (CallsIn.inRound l (callsIn_wide.2 C.out)).mono ?_; rintro e w5 ⟨s', ⟨v, rfl⟩, ⟨h1, h2⟩, h3⟩)
        exact ⟨s', ⟨h1, by rw [h2, HT.out, HSS.out]⟩, h3⟩
      case done =>
        rintro Dd s W hD ⟨hok, hσ⟩ hP' hK
        rw [tkI_tgts] at hσ
        have hFI := FI.begin (gs := gs) HVR.out
        rw [HGL.out, ← hσ] at hFI
        have hCL : Colls w.heap.size W [{ target := .collected Dd, args := #[] }] := ⟨Dd, rfl, by omega, hK, by simp, trivial⟩
        have hSW := (hS2.call 0 rfl hP').blkAt 3 #[.int .i64 0] (g := W.heap.size) rfl
        have hCL2 := hCL.keep (w' := W.alloc (.cells #[.int .i64 0] 3)) (fun k o _ hk _ => (Below.heap_alloc W _ k (Array.getElem?_eq_some_iff.1 hk).1).trans hk)
        have HSW := hide hSW
        have HCL := hide hCL2
        have HFI := hide hFI
        have HOK := hide (show s.nl = s.σ.1.length from hok)
        have HFE := hide (show fnd gs (gs.length - 0) 0 s.σ = fndAll gs roots from by rw [hσ, ← HGL.out]; rfl)
        have hDs : W.heap.size ≤ W.heap.size := Nat.le_refl _
        clear hSW hP' hK hCL hCL2 hok hσ hFI hS2 HS g1 g2 g3 g4
        gi_wp2
        refine wpIn_loop_ghost_k (fun (g : Nat) (a' : Act) (w' : World) => ∃ (u9 u32 u33 u34 u35 u36 u37 u38 u39 u40 u41 u42 u43 u44 u45 u46 u47 u60 : Value) (ds : List Deferred), (∃ (j Bk : Nat) (s : FdS), u9 = .pointer (some ⟨Bk, 0, none⟩) ∧ g = k - j ∧ Hid (j ≤ s.nl) ∧ Hid (FI gs roots j s.σ) ∧ Hid (fnd gs (gs.length - j) j s.σ = fndAll gs roots) ∧ Hid (s.nl = s.σ.1.length) ∧ Hid (Colls w.heap.size w' ds) ∧
            Sep No w w' [fdIt w1.heap.size wr.heap.size (w.heap.size + 1) k s, blkI w.heap.size 27 #[.slice AO k cO, .slice AR nR cR], blkI (wr.heap.size + 1) 139 #[.func (.func 163) #[] #[.pointer (some ⟨w1.heap.size, 0, none⟩), .pointer (some ⟨wr.heap.size, 0, none⟩)]], blkI Bk 3 #[.int .i64 j]]) ∧ a' = { tmps := #[.agg #[.slice AO k cO, .slice AR nR cR], .pointer (some ⟨w.heap.size, 0, none⟩), .slice none 0 0, .slice none 0 0, .pointer (some ⟨w1.heap.size, 0, none⟩), u5, .pointer (some ⟨wr.heap.size, 0, none⟩), .pointer (some ⟨wr.heap.size + 1, 0, none⟩), undef, u9, undef, .pointer (some ⟨w.heap.size, 0, none⟩), .slice AO k cO, .int .i64 ↑k, .slice (some ⟨w.heap.size + 1, 0, none⟩) k k, .slice (some ⟨w.heap.size + 1, 0, none⟩) k k, .int .i64 ↑k, .int .i64 ↑k, .bool false, u19, u20, u21, u22, u23, .func (.func 163) #[] #[.pointer (some ⟨w1.heap.size, 0, none⟩), .pointer (some ⟨wr.heap.size, 0, none⟩)], .pointer (some ⟨w.heap.size, 1, none⟩), .slice AR nR cR, .func (.func 131) #[] #[.pointer (some ⟨wr.heap.size + 1 + 1, 0, none⟩)], undef, undef, undef, undef, u32, u33, u34, u35, u36, u37, u38, u39, u40, u41, u42, u43, u44, u45, u46, u47, undef, undef, undef, undef, undef, undef, undef, undef, undef, undef, undef, undef, u60, undef, undef], defers := ds }) k ?atStart ?round
        case atStart =>
          (repeat apply Exists.intro)
          refine ⟨⟨0, W.heap.size, s, rfl, rfl, Nat.zero_le _, HFI, HFE, HOK, HCL, HSW.out.sub (by simp)⟩, rfl⟩
        case round =>
          clear HFI HFE HOK HCL HSW
          rintro gk a' wv ⟨u9, u32, u33, u34, u35, u36, u37, u38, u39, u40, u41, u42, u43, u44, u45, u46, u47, u60, ds, ⟨j, Bk, ⟨A, nl, cl, σ⟩, rfl, hgk, HJ, HFI, HFE, HOK, HCL, hS⟩, rfl⟩ J K hJ hK
          dsimp only at HJ HFI HFE HOK hS
          clear a2 a3 a5 a6 b2 b3 q2 q3 q5 q6 hsz1 hlt
          have hlen := HFI.out.f.ok.len
          have hlen2 := HGL.out
          have hok := HOK.out
          have hSf := hS.split
          obtain ⟨b1, b2, b3, b4⟩ := hSf.rules 3 (g := wr.heap.size) (t := 35) rfl
          have b5 := b1 0
          obtain ⟨k1, k2, k3, k4⟩ := hSf.rules 6 (g := Bk) (t := 3) rfl
          have k5 := k1 0
          by_cases hjl : j < nl
          · have t1 : decide ((j : Int) < (nl : Int)) = true := by simp; omega
            have t2 : decide (j < nl) = true := by simp; omega
            have hjs : j < σ.1.length := by omega
            obtain ⟨x, hx⟩ : ∃ x, σ.1.getD j 0 = x := ⟨_, rfl⟩
            have hxm : x ∈ σ.1 := by rw [← hx]; exact getD_mem hjs
            obtain ⟨hx0, hx1⟩ := HFI.out.f.ok.rng x hxm
            obtain ⟨z, hz⟩ := int_nat hx0
            have hzk : z < k := by omega
            have hrow : wv.ownsRow 0 3 1 (.slice A nl cl) nl (ints σ.1) := hSf.get 0 rfl
            obtain ⟨gl, hA⟩ := own_addr' hrow (by omega)
            subst hA
            have e0 : wv.cell? ⟨gl, j, none⟩ = some (.int .i64 (z : Int)) := by
              rw [hrow.cellAt j (by omega), ints_get' _ _ hjs, ← hz, ← hx, List.getD_eq_getElem?_getD, List.getElem?_eq_getElem hjs]; rfl
            obtain ⟨g1, g2, g3, g4⟩ := hSf.rules 4 (g := w.heap.size) (t := 27) rfl
            have g5 := g1 0
            have hOw := HOO.out.below hS.below_
            have hzl : z < obs.length := by rw [HOO.out.len]; exact hzk
            obtain ⟨ad, hAO, _, had, hc⟩ := hOw.row.at_ hzk
            have e1 := hc obs[z].val (by simp [List.getElem?_eq_getElem hzl])
            have hEach := hOw.each _ (List.getElem_mem hzl)
            have hFl := HOO.out.flen (List.getElem_mem hzl)
            have hF1 := HFF.out _ (List.getElem_mem hzl)
            have hfi : fieldsI gs x = obs[z].fields := by
              unfold fieldsI
              rw [hz, ← HGS.out, List.getD_eq_getElem?_getD]
              simp [List.getElem?_eq_getElem hzl]
            obtain ⟨o, ho⟩ : ∃ o, obs[z] = o := ⟨_, rfl⟩
            rw [ho] at e1 hEach hFl hF1 hfi
            unfold Ob.val at e1
            have i0 : (0 : Int) ≤ (j : Int) := by omega
            have i1 : (0 : Int) ≤ (z : Int) := by omega
            have hmx : Try.prog.follows .mixedOrders = true := by kernel_rfl
            have HAO := hide hAO
            have HS := hide hS
            have HX := hide hx
            have HZ := hide hz
            have HFIX := hide hfi
            have HXM := hide hxm
            have HEACH := hide hEach
            have HFL := hide hFl
            clear hS hSf b1 b4 k1 k4 g1 g4 hc hx hz hfi hxm hEach hFl hrow ho hOw hok hlen hlen2
            subst hAO
            gi_wp2
            refine wpIn_region_still_tail wideF 9 hmx (by kernel_rfl) ?_
            simp only [List.take_succ_cons, List.take_zero, List.drop_succ_cons, List.drop_zero]
            repeat still_step
            refine wpStill_nil ?_
            have HS2 := hide ((HS.out.blkAt 25 #[.slice o.A o.n o.c] (g := wv.heap.size) rfl).drew)
            have hS2 := HS2.out
            have hidx := HFI.out.idx j hjs
            have hnn : 0 ≤ σ.2.getD z 0 := by
              have h3 := HFI.out.f.there z (by have := HGL.out; omega)
              exact h3.2 (by rw [← HZ.out]; exact HXM.out)
            rw [HX.out, HZ.out, show ((z : Int)).toNat = z from by omega] at hidx
            obtain ⟨t, ht⟩ : ∃ t, σ.2.getD z 0 + 1 = t := ⟨_, rfl⟩
            have hlen := HFI.out.f.ok.len
            have htb : 0 ≤ t ∧ t < gs.length + 1 := by omega
            have HT := hide ht
            have hfo : ValsOk gs.length o.fields := by rw [← HFIX.out]; exact fieldsI_ok HVG.out _
            have hOK := HOK.out
            have hEB := HEACH.out.below ((Below.refl _ wv).alloc (Nat.le_refl _) (.cells #[.slice o.A o.n o.c] 25)).drew
            gi_wp2_with (refine ⟨trivial, ?_⟩; gi_at_call 63; refine (targets_in Fence.wide 9 trivial rfl _ _ _ _).mono ?_; rintro e w2 ⟨rfl, rfl⟩)
            refine wpIn_tgt (n := 10) rfl (by omega) trivial wv.heap.size (by rfl) (by rfl) (fdIt w1.heap.size wr.heap.size (w.heap.size + 1) k) ⟨some ⟨gl, 0, none⟩, nl, cl, σ⟩ (vs := o.fields) hF1 (hS2.get 4 rfl) (hS2.other (a := 4) (b := 0) rfl rfl (by omega) _ rfl) ?hrd
              (fun pre s => FdOk s ∧ s.σ = tkI t pre σ) (fun _ _ _ => False) (fun s => fdIt_tame _ _ _ _ _ s) ⟨HOK.out, rfl⟩ (hS2.get 0 rfl) ?a2 ?assign2 ?body2 ?done2 ?stop2
            case hrd =>
              exact hEB.more (fun g _ hg hf => by
                rcases hS2.lo 0 rfl g hf with h | h
                · exact h
                · omega)
            case assign2 =>
              intro l x W K hK
              gi_wp2
              exact hK
            case stop2 =>
              rintro Dd c pre s W hD hpre hF
              exact hF.elim
            case body2 =>
              rintro l pre y s2 W2 hx2 hpre2 hlen2 ⟨hok2, hσ2⟩ hP2
              have hSW := hS2.call 0 rfl hP2
              obtain ⟨t1, t2⟩ := tkI_ok hfo htb HFI.out.f hpre2
              rw [← hσ2] at t1 t2
              have hyr := tgts_rng hfo hx2
              have hll := t1.ok.len
              have hlt1 := t1.len
              have hpl := t2.pre_.length_le
              have hjs2 : j < s2.σ.1.length := by omega
              have hx3 : s2.σ.1[j] = (z : Int) := by
                have h1 := getD_pre t2.pre_ hjs
                rw [HX.out, HZ.out, List.getD_eq_getElem?_getD, List.getElem?_eq_getElem hjs2] at h1
                exact h1
              have hz3 : s2.σ.2.getD z 0 = σ.2.getD z 0 := by
                have h1 := t2.keep x HXM.out
                rw [HZ.out, show ((z : Int)).toNat = z from by omega] at h1
                exact h1
              have hzl3 : z < s2.σ.2.length := by have := HGL.out; omega
              have hok3 : s2.nl = s2.σ.1.length := hok2
              obtain ⟨A2, nl2, cl2, σ2⟩ := s2
              dsimp only at hok3 hσ2 hjs2 hx3 hz3 hzl3 hlt1 hll t1
              have hSf := hSW.split
              have hrow : W2.ownsRow 0 3 1 (.slice A2 nl2 cl2) nl2 (ints σ2.1) := hSf.get 0 rfl
              obtain ⟨gl2, hA2⟩ := own_addr' hrow (by omega)
              subst hA2
              have e0 : W2.cell? ⟨gl2, j, none⟩ = some (.int .i64 (z : Int)) := by
                rw [hrow.cellAt j (by omega), ints_get' _ _ hjs2, hx3]
              have hrowD : W2.ownsRow 0 3 1 (.slice (some ⟨w.heap.size + 1, 0, none⟩) k k) k (ints σ2.2) := hSf.get 1 rfl
              have e1 : W2.cell? ⟨w.heap.size + 1, z, none⟩ = some (.int .i64 (σ.2.getD z 0)) := by
                rw [hrowD.cellAt z (by omega), ints_get' _ _ hzl3, ← hz3, List.getD_eq_getElem?_getD, List.getElem?_eq_getElem hzl3]; rfl
              obtain ⟨x1, x2, x3, x4⟩ := hSf.rules 2 (g := w1.heap.size) (t := 35) rfl
              have x5 := x1 0
              obtain ⟨y1, y2, y3, y4⟩ := hSf.rules 3 (g := wr.heap.size) (t := 35) rfl
              have y5 := y1 0
              obtain ⟨f1, f2, f3, f4⟩ := hSf.rules 5 (g := wr.heap.size + 1) (t := 139) rfl
              have f5 := f1 0
              obtain ⟨m1, m2, m3, m4⟩ := hSf.rules 6 (g := Bk) (t := 3) rfl
              have m5 := m1 0
              have C := hide (take_any W2.drew w1.heap.size wr.heap.size (w.heap.size + 1) k (some ⟨gl2, 0, none⟩) nl2 cl2 σ2 y t (hSW.drew.get 0 rfl) hyr.1 (by have := HGL.out; omega) (by have := HGL.out; omega) (by rw [hlt1]; exact HGL.out) hok3)
              have HTK := hide (tkI_snoc t pre y σ)
              have HSS := hide hσ2
              have HPP := hide (Sep.start (hP2.get 0 rfl)).drew
              obtain ⟨v, hv⟩ : ∃ v, σ.2.getD z 0 = v := ⟨_, rfl⟩
              rw [hv] at e1 hnn ht hidx
              have W1 : IntKind.i64.wrap (v + 1) = t := by have := HGL.out; have := HOK.out; simp only [IntKind.wrap_i64]; omega
              have t6 : j < nl2 := by omega
              have t7 : decide ((j : Int) < (nl2 : Int)) = true := by simp; omega
              have t8 : decide (j < nl2) = true := by simp; omega
              have t9 : decide (z < k) = true := by simp; omega
              clear hSW hSf hrow hrowD hx2 hpre2 hlen2 hok2 hσ2 hP2 x1 x4 y1 y4 f1 f4 m1 m4 t1 t2 hyr hll hlt1 hpl hjs2 hx3 hz3 hzl3 hok3 hS2 hidx hfo hOK hEB hv ht htb hlen hD hDs
              refine wpIn_opaque fun K9 hK9 => ?_
              gi_wp2
              refine wpIn_region_still_tail (wideF_round l) 10 hmx (by kernel_rfl) ?_
              simp only [List.take_succ_cons, List.take_zero, List.drop_succ_cons, List.drop_zero]
              repeat still_step
              refine wpStill_nil ?_
              gi_wp2_with (refine ⟨trivial, ?_⟩; gi_at_call 163; (with_reducible refine (CallsIn.inRound l (callsIn_wide.2 C.out)).mono ?_); rintro e w5 ⟨s5, ⟨v5, rfl⟩, h12, h3⟩; have H12 := hide h12; have H3 := hide h3; clear h12 h3)
              exact ⟨s5, ⟨H12.out.1, by rw [H12.out.2, HTK.out, HSS.out]⟩, HPP.out.call 0 rfl H3.out⟩
            case done2 =>
              rintro Dd2 s2 W2 hD2 ⟨hok2, hσ2⟩ hP2 hK2
              rw [tkI_tgts] at hσ2
              have hFI2 := HFI.out.next HVG.out hjs
              have hFE2 := HFE.out
              rw [fnd_step gs gs.length j σ hjs (by have := HGL.out; have := HOK.out; omega)] at hFE2
              rw [HX.out, HZ.out, show ((z : Int)).toNat = z from by omega, HT.out, ← HZ.out, HFIX.out, ← hσ2] at hFI2 hFE2
              have hSW := hS2.call 0 rfl hP2
              have hkf : KeepsFrom w.heap.size wv W2 := (((KeepsOthers.alloc wv (.cells #[.slice o.A o.n o.c] 25)).trans (KeepsOthers.drew _)).from _).trans (hP2.bel.keepsFrom (fun k o hk ho hc => (fdIt_tame w.heap.size _ _ _ _ _).far (hS2.get 0 rfl) hk ho hc))
              have hszv : w.heap.size ≤ wv.heap.size := HS.out.bel.size
              have hsz9 : (wv.alloc (.cells #[.slice o.A o.n o.c] 25)).drew.heap.size = wv.heap.size + 1 := by simp
              have hCL2 := HCL.out.push hkf.same hszv (by omega) hK2
              obtain ⟨m1, m2, m3, m4⟩ := hSW.rules 3 (g := Bk) (t := 3) rfl
              have m5 := m1 0
              have hlen4 := HFI.out.f.ok.len
              have W1 : IntKind.i64.wrap ((j : Int) + 1) = ((j + 1 : Nat) : Int) := by have := HGL.out; have := HOK.out; simp only [IntKind.wrap_i64]; omega
              have hjn2 : j + 1 ≤ s2.nl := by
                have h1 : s2.nl = s2.σ.1.length := hok2
                have h2 := (Tkn.all htb o.fields HFI.out.f hfo).pre_.length_le
                rw [← hσ2] at h2
                have := HOK.out
                omega
              have HM := hide (show k - (j + 1) < gk from by have := HGL.out; have := HOK.out; omega)
              have HFI2 := hide hFI2
              have HFE2 := hide hFE2
              have HOK2 := hide (show s2.nl = s2.σ.1.length from hok2)
              have HJ2 := hide hjn2
              have HCL3 := hide (hCL2.keep (w' := W2.alloc (.cells #[.int .i64 ((j + 1 : Nat) : Int)] 3)) (fun k o _ hk _ => (Below.heap_alloc W2 _ k (Array.getElem?_eq_some_iff.1 hk).1).trans hk))
              have HSW := hide ((hSW.sub (List.take_sublist 3 _)).blkAt 3 #[.int .i64 ((j + 1 : Nat) : Int)] (g := W2.heap.size) rfl)
              clear hFI2 hFE2 hSW hkf hCL2 m1 m4 hjn2 hok2 hσ2 hP2 hK2 hS2 HS HFI HFE HOK hD2 hidx ht htb hfo hOK hEB hlen hlen4 hnn hgk
              gi_wp2
              gi_roundg (k - (j + 1))
              case measure => exact HM.out
              case rel => exact ⟨j + 1, W2.heap.size, s2, rfl, rfl, HJ2, HFI2, HFE2, HOK2, HCL3, HSW.out⟩
          · have t1 : decide ((j : Int) < (nl : Int)) = false := by simp; omega
            have t2 : decide (j < nl) = false := by simp; omega
            have hE : σ = fndAll gs roots := by rw [← HFE.out, fnd_done _ _ _ _ (by omega)]
            obtain ⟨d1, d2, d3, d4⟩ := hSf.rules 2 (g := w1.heap.size) (t := 35) rfl
            have d5 := d1 0
            have HS := hide hSf
            have HE := hide hE
            have hmx : Try.prog.follows .mixedOrders = true := by kernel_rfl
            clear hS hSf b1 b4 k1 k4 d1 d4 hE hgk hok hlen hlen2
            gi_wp2
            gi_region_o
            all_goals
              gi_wp2
              refine collsOff (B := w.heap.size) (u := .returning) (by simp) _ _ (HCL.out.keep (fun _ _ _ h _ => h)) ?_
              intro w' c1 c2 c3 c4 c5 c6
              have hSw := ((HS.out.sub (l := [rowI 3 1 A nl cl (ints σ.1), rowI 3 1 (some ⟨w.heap.size + 1, 0, none⟩) k k (ints σ.2)]) (by simp [FdI])).drew).closed (B := w.heap.size) (fun i hi => by
                simp only [List.mem_cons, List.not_mem_nil, or_false] at hi
                rcases hi with rfl | rfl
                · exact Tame.row _ _ _ _ _ _ _
                · exact Tame.row _ _ _ _ _ _ _) (Nat.le_refl _) c1 c2 c3 c4 c5 c6
              rw [HE.out] at hSw
              exact ⟨.tuple #[.slice A nl cl, .slice (some ⟨w.heap.size + 1, 0, none⟩) k k], by simp [results, Try.f110, go_sem], A, nl, cl, some ⟨w.heap.size + 1, 0, none⟩, k, rfl, hSw⟩
end Go.Proofs.Ytjphckfbbiehdaa

namespace Go.Proofs.Ytjphckfbbiehdaa
open Go.RowKit Go.Maps

/-- A map from numbers to numbers, of the call's own. -/
def imL (b n : Nat) (D : DataW Unit) : Item where
  fp k := k = b
  P w := w.ownsMap Try.prog 2 (plainElem Try.prog 2) b n D
  dom w h k hk := by subst hk; exact World.ownsMap.lt h
  loc w w' _ hk h := by obtain ⟨es, clock, hb, r⟩ := h; exact ⟨es, clock, (hk b rfl).trans hb, r⟩
set_option maxRecDepth 100000 in
theorem Sep.imLUpd {F : Nat → Prop} {W w : World} {items : List Item} (hS : Sep F W w items) (k : Nat) {b n : Nat} {D : DataW Unit} (hk : items[k]? = some (imL b n D)) (hn : n < maxLen) (y z : Int) (hy : (Lit.int .i64 y).wf = true) (hz : (Lit.int .i64 z).wf = true) :
    ∃ w', (Instr.mapUpdate 275 (.map (some b)) (.int .i64 y) (.int .i64 z)).run Try.prog w = .ok () w' ∧ Sep F W w' (items.set k (imL b (n + 1) (D.put (.int .i64 y) (.lit (.int .i64 z))))) ∧ Chg (fun g => g = b) w w' := by
  have hown : w.ownsMap Try.prog 2 (plainElem Try.prog 2) b n D := hS.get k hk
  obtain ⟨w', hrun, r1, r2⟩ := hown.update (int_keyed Try.underlying2) Try.underlying275 hn (keyOf_int_mk Try.underlying2 hy) (plainElem_int Try.underlying2 hz)
  have hc : Chg (fun g => g = b) w w' := (Chg.of_grown r2).mono (fun g hx => .inl (by injection hx with hx; exact hx.symm))
  exact ⟨w', hrun, hS.step k hk hc (imL b (n + 1) (D.put (.int .i64 y) (.lit (.int .i64 z)))) r1 (fun g hg => .inl hg), hc⟩
set_option maxRecDepth 100000 in
theorem wpList_imLUpd {w : World} {ops : Array Oper} {rest : List Oper} {o : Oper} {a : Act} {Q : Exit → Act → World → Prop} (hgd : o.guard = none) (m x v : Operand) (hop : o.op = Op.mapUpdate 275 m x v)
    {F : Nat → Prop} {W : World} {items : List Item} (hS : Sep F W w items) (k : Nat) {b n : Nat} {D : DataW Unit} (hk : items[k]? = some (imL b n D)) (hn : n < maxLen) (y z : Int) (hm : a.eval m = .map (some b)) (hx : a.eval x = .int .i64 y) (hv : a.eval v = .int .i64 z)
    (hy : (Lit.int .i64 y).wf = true) (hz : (Lit.int .i64 z).wf = true) (h : ∀ w', Sep F W w' (items.set k (imL b (n + 1) (D.put (.int .i64 y) (.lit (.int .i64 z))))) → wpList Try.prog ops Q rest (a.put o.dst undef) w') : wpList Try.prog ops Q (o :: rest) a w :=
  wpList_plain hgd fun K hK => by
    obtain ⟨w', hrun, hS', _⟩ := hS.imLUpd k hk hn y z hy hz
    unfold Oper.wp
    simp [execOp, hop, hm, hx, hv, hrun, Result.andThen]
    exact hK _ _ (h w' hS')
theorem zeroL_ (w : World) : (zeroValue 2).run Try.prog w = .ok (.int .i64 0) w := by kernel_rfl
set_option maxRecDepth 100000 in
theorem run_lookupL {w : World} {b n : Nat} {D : DataW Unit} (hown : w.ownsMap Try.prog 2 (plainElem Try.prog 2) b n D) (y z : Int) (hy : (Lit.int .i64 y).wf = true) (hz : D.atKey (.int .i64 y) (.lit (.int .i64 0)) = .lit (.int .i64 z)) : (Instr.lookup 275 (.map (some b)) (.int .i64 y) false).run Try.prog w = .ok (.int .i64 z) w := by
  obtain ⟨c, hrun, hat, hwc⟩ := hown.lookup_int (int_keyed Try.underlying2) Try.underlying275 Try.underlying2 (zeroL_ w) (keyOf_int_mk Try.underlying2 hy)
  obtain rfl : c = z := by
    have h9 := hz.symm.trans hat
    injection h9 with h9; injection h9 with _ h9; exact h9.symm
  exact hrun
/-- A new map. -/
theorem Sep.imLNew {F : Nat → Prop} {W w : World} {items : List Item} (hS : Sep F W w items) {g : Nat} (hg : w.heap.size = g) : Sep F W (w.alloc (.map #[] 0)) (items ++ [imL g 0 (.map [])]) := by
  subst hg
  exact hS.snocNew ((Below.refl _ w).alloc (Nat.le_refl _) _) (imL w.heap.size 0 (.map [])) (World.ownsMap_made _ _ _ _) (fun g hg => by rw [show g = w.heap.size from hg]; exact Nat.le_refl _)

theorem litL_ne {x y : Int} (h : x ≠ y) : (Lit.int .i64 x) ≠ .int .i64 y := fun e => by injection e with _ e; exact h e
theorem wfL {x : Int} (h0 : -1000 ≤ x) (h1 : x ≤ 1000) : (Lit.int .i64 x).wf = true := WalkArith.wf_i64 (by omega)
/-- Where each stands. -/
structure AtD (l : List Int) (D : DataW Unit) : Prop where
  map : Maps.IsMap D
  at_ : ∀ x : Int, D.atKey (.int .i64 x) (.lit (.int .i64 0)) = .lit (.int .i64 (placeN l x))
theorem AtD.nil : AtD [] (.map []) := ⟨⟨[], rfl⟩, fun x => by simp [DataW.atKey, placeN]⟩
theorem placeN_snoc {l : List Int} {x : Int} (hx : x ∉ l) (y : Int) : placeN (l ++ [x]) y = if y = x then l.length else placeN l y := by
  unfold placeN
  by_cases e : y = x
  · subst e
    rw [if_pos rfl, if_pos (by simp), List.idxOf_append, if_neg hx]
    simp
  · rw [if_neg e]
    by_cases h : y ∈ l
    · rw [if_pos h, if_pos (by simp [h]), List.idxOf_append, if_pos h]
    · rw [if_neg h, if_neg (by simp [h, e])]
theorem AtD.snoc {l : List Int} {D : DataW Unit} (h : AtD l D) {x : Int} (hx : x ∉ l) : AtD (l ++ [x]) (D.put (.int .i64 x) (.lit (.int .i64 (l.length : Int)))) := by
  refine ⟨h.map.put _ _, fun y => ?_⟩
  rw [placeN_snoc hx]
  by_cases e : y = x
  · subst e
    rw [atKey_put_same (k := Lit.int .i64 y) h.map trivial, if_pos rfl]
  · rw [atKey_put_other (litL_ne e), h.at_, if_neg e]

set_option maxRecDepth 100000 in
set_option maxHeartbeats 4000000 in
theorem turnP_any (w : World) (Bm b nn : Nat) (D : DataW Unit) (A : Option Addr) (n c N : Nat) (vs : List Val) (l : List Int) (hn : n ≤ 1000) (hnl : l.length ≤ 1000) (hv : Rd w (fun _ => True) 2 A n (vals vs)) (hB : Blk w Bm 275 #[.map (some b)]) (hM : (imL b nn D).P w) (hD : AtD l D) (hvs : ValsOk N vs) (hN : N ≤ 1000) :
    Calls Try.prog 164 #[.slice A n c, .pointer (some ⟨Bm, 0, none⟩)] w fun e w' => ∃ A' c', e = .returned (.slice A' n c') ∧ Sep No w w' [rowI 107 2 A' n c' (vals (vs.map (turnL l)))] := by
  have HLL := hide (show vs.length = n by have := hv.1; rw [vals_length] at this; omega)
  have HS0 := hide ((Sep.nil No w).nilRow 107 2)
  have HBB := hide hB
  have HMM := hide hM
  have HDD := hide hD
  have HVS := hide hvs
  clear hB hM hD hvs
  go_enter Try.func164, Try.ntmps164
  go_wp2_with fail
  go_loopw [4, 9] (fun s5 i wr => ∃ (k : Nat) (A' : Option Addr) (c' : Nat), k ≤ n ∧ i = .int .i64 k ∧ s5 = .slice A' k c' ∧ Sep No w wr [rowI 107 2 A' k c' (vals ((vs.take k).map (turnL l)))]) (fun _ i _ => n - (intOf i).toNat)
  case atStart => exact ⟨0, none, 0, by omega, rfl, rfl, HS0.out⟩
  case round =>
    clear HS0
    obtain ⟨k, A', c', hk, rfl, rfl, hS⟩ := hrel
    by_cases hlt : k < n
    · have hkl : k < vs.length := by rw [HLL.out]; exact hlt
      obtain ⟨ad, hA, _, had, hc, hd⟩ := (hv.below hS.below_).atN hlt
      obtain ⟨v0, v1⟩ := vals_at vs k hkl
      have e0 := hc _ v0
      have e1 := hd 0 _ v1
      have HT := hide (List.take_succ_eq_append_getElem hkl)
      have hvk := HVS.out _ (List.getElem_mem hkl)
      obtain ⟨x, hx⟩ : ∃ x, vs[k] = x := ⟨_, rfl⟩
      rw [hx] at e0 e1 HT hvk
      subst hA
      clear hc hd v0 v1 hx
      obtain ⟨b9, m⟩ := x
      dsimp only at e0 e1 hvk
      cases b9 with
      | false =>
        have HX := hide (show turnL l (false, m) = (false, m) from rfl)
        clear hvk
        go_wp2_with (first
          | (at_builtin
             refine wpList_app1 (cs := #[.bool false, .int .i64 m]) rfl (.tmp 20) (.tmp 22) 25 rfl sVal (hS.alloc _) 0 (n := k) rfl rfl rfl (by simp) rfl rfl (by omega) ?_
             intro A4 c4 w4 hS4 hC4))
        go_roundw
        case rel => exact ⟨k + 1, A4, c4, by omega, by go_num, rfl, by rw [HT.out, List.map_append, List.map_cons, List.map_nil, HX.out, vals_snoc]; exact hS4⟩
        case measure => simp [intOf]; omega
      | true =>
        obtain ⟨r0, r1⟩ := hvk rfl
        have HX := hide (show turnL l (true, m) = (true, (placeN l m : Int)) from rfl)
        have hbw := (hS.alloc (.cells #[.bool true, .int .i64 m] 107)).below_
        have hM2 : (imL b nn D).P (wr.alloc (.cells #[.bool true, .int .i64 m] 107)) := (imL b nn D).loc w _ hbw.size (fun k hk => hbw.block k ((imL b nn D).dom w HMM.out k hk)) HMM.out
        have q1 := run_lookupL hM2 m (placeN l m : Int) (wfL (by omega) (by omega)) (HDD.out.at_ m)
        obtain ⟨z1, z2, z3⟩ := (HBB.out.below_ hS.below_).rules
        have z4 := z1 0
        obtain ⟨q, hq⟩ : ∃ q, placeN l m = q := ⟨_, rfl⟩
        rw [hq] at q1 HX
        clear hq hbw hM2 hvk z1
        go_wp2_with (first
          | (at_builtin
             refine wpList_app1 (cs := #[.bool true, .int .i64 q]) rfl (.tmp 20) (.tmp 22) 25 rfl sVal (hS.alloc _) 0 (n := k) rfl rfl rfl (by simp) rfl rfl (by omega) ?_
             intro A4 c4 w4 hS4 hC4))
        go_roundw
        case rel => exact ⟨k + 1, A4, c4, by omega, by go_num, rfl, by rw [HT.out, List.map_append, List.map_cons, List.map_nil, HX.out, vals_snoc]; exact hS4⟩
        case measure => simp [intOf]; omega
    · obtain rfl : k = n := by omega
      rw [show vs.take k = vs from List.take_of_length_le (by rw [HLL.out]; omega)] at hS
      go_wp2_with fail
      go_ret
      exact ⟨A', c', rfl, hS⟩
end Go.Proofs.Ytjphckfbbiehdaa

namespace Go.Proofs.Ytjphckfbbiehdaa
open Go.RowKit Go.Maps

set_option maxRecDepth 100000 in
set_option maxHeartbeats 16000000 in
theorem renumP_any (w : World) (v : Value) (Al : Option Addr) (nl cl : Nat) (fss : List (List Val)) (roots : List Val) (l : List Int) (h : GraphRd w (fun _ => True) v fss roots) (hl : Rd w (fun _ => True) 1 Al nl (ints l)) (hlr : ∀ x ∈ l, 0 ≤ x ∧ x < (fss.length : Int)) (hnd : l.Nodup) (hn : fss.length ≤ 1000) (hnl : nl ≤ 1000) (hr : roots.length ≤ 1000) (hf : ∀ fs ∈ fss, fs.length ≤ 1000) (hvr : ValsOk fss.length roots) (hvg : ∀ fs ∈ fss, ValsOk fss.length fs) :
    Calls Try.prog 111 #[v, .slice Al nl cl] w fun e w' => ∃ v', e = .returned v' ∧ Below w.heap.size w w' ∧ GraphRd w' (fun g => w.heap.size ≤ g) v' (renumF fss l) (roots.map (turnL l)) := by
  obtain ⟨AO, nO, cO, AR, nR, cR, obs, rfl, hO, h3, hR⟩ := h.ex
  have HRL := hide (show roots.length = nR by have := hR.1; rw [vals_length] at this; omega)
  have HLL := hide (show l.length = nl by have := hl.1; simpa using this)
  have HOL := hide hO.len
  have hlen : fss.length = nO := by rw [← h3, List.length_map]; exact hO.len
  rw [hlen] at hlr hn hvr
  simp only [hlen] at hvg
  have HF := hide hf
  have H3 := hide h3
  have HLR := hide hlr
  have HND := hide hnd
  have HVR := hide hvr
  have HVG := hide hvg
  have hnR : nR ≤ 1000 := by have := HRL.out; omega
  have hS0 := (((((Sep.nil No w).blkAt 27 #[.slice AO nO cO, .slice AR nR cR] rfl).blkAt 27 #[.slice none 0 0, .slice none 0 0] (g := w.heap.size + 1) (by simp)).imLNew (g := w.heap.size + 1 + 1) (by simp)).blkAt 275 #[.map (some (w.heap.size + 1 + 1))] (g := w.heap.size + 1 + 1 + 1) (by simp))
  have HS0 := hide hS0
  have hmm := @run_makeMap Try.prog
  clear hlr hf h3 hlen hr h hS0 hnd hvr hvg
  go_enter Try.func111, Try.ntmps111
  go_wp2_with fail
  go_loopw [15] (fun s wr => ∃ (k : Nat) (D : DataW Unit), k ≤ nl ∧ s = .int .i64 k ∧ Hid (AtD (l.take k) D) ∧ Sep No w wr [blkI w.heap.size 27 #[.slice AO nO cO, .slice AR nR cR], blkI (w.heap.size + 1) 27 #[.slice none 0 0, .slice none 0 0], imL (w.heap.size + 1 + 1) k D, blkI (w.heap.size + 1 + 1 + 1) 275 #[.map (some (w.heap.size + 1 + 1))]]) (fun s _ => nl - (intOf s).toNat)
  case atStart => exact ⟨0, .map [], by omega, rfl, by rw [List.take_zero]; exact AtD.nil, HS0.out⟩
  case round =>
    clear HS0
    obtain ⟨k, D, hk, rfl, HD, hS⟩ := hrel
    obtain ⟨x1, x2, x3, x4⟩ := hS.rules 3 (g := w.heap.size + 1 + 1 + 1) (t := 275) rfl
    have x5 := x1 0
    by_cases hlt : k < nl
    · have hkl : k < l.length := by rw [HLL.out]; exact hlt
      obtain ⟨ad, hA, _, had, hc⟩ := (hl.below hS.below_).at_ hlt
      have e0 := hc (.int .i64 l[k]) (by simp [ints, List.getElem?_eq_getElem hkl])
      obtain ⟨r1, r2⟩ := HLR.out _ (List.getElem_mem hkl)
      have HT := hide (List.take_succ_eq_append_getElem hkl)
      have HNI := hide (show l[k] ∉ l.take k from fun hm => by
        obtain ⟨j, hj, he⟩ := List.mem_iff_getElem.1 hm
        rw [List.getElem_take] at he
        rw [List.length_take] at hj
        have := (List.nodup_iff_pairwise_ne.1 HND.out)
        rw [List.pairwise_iff_getElem] at this
        exact this j k (by omega) hkl (by omega) he)
      obtain ⟨x, hx⟩ : ∃ x, l[k] = x := ⟨_, rfl⟩
      rw [hx] at e0 r1 r2 HT HNI
      have hwf := wfL (x := x) (by omega) (by omega)
      have hwk := wfL (x := (k : Int)) (by omega) (by omega)
      have HD2 := hide (show AtD (l.take (k + 1)) (D.put (.int .i64 x) (.lit (.int .i64 (k : Int)))) from by
        rw [HT.out]
        have h := HD.out.snoc HNI.out
        rw [List.length_take, Nat.min_eq_left (by omega)] at h
        exact h)
      subst hA
      clear hc hx x1 x4 HD HNI
      go_wp2_with (first
        | (at_mapUpdate
           refine wpList_imLUpd rfl (.tmp 20) (.tmp 21) (.tmp 22) rfl hS 2 rfl (by unfold maxLen; omega) x (k : Int) rfl rfl rfl hwf hwk ?_
           intro w4 hS4))
      go_roundw
      case rel => exact ⟨k + 1, _, by omega, by go_num, HD2, hS4⟩
      case measure => simp [intOf]; omega
    · obtain rfl : k = nl := by omega
      rw [List.take_of_length_le (by rw [HLL.out]; omega)] at HD
      obtain ⟨i1, i2, i3, i4⟩ := hS.rules 0 (g := w.heap.size) (t := 27) rfl
      have i5 := i1 0
      have i6 := i1 1
      have C1 := hide (fun (W : World) (A : Option Addr) (n c : Nat) (vs : List Val) (hB : Blk W (w.heap.size + 1 + 1 + 1) 275 #[.map (some (w.heap.size + 1 + 1))]) (hM : (imL (w.heap.size + 1 + 1) k D).P W) (hn1 : n ≤ 1000) (hv : Rd W (fun _ => True) 2 A n (vals vs)) (hvs : ValsOk nO vs) =>
        turnP_any W (w.heap.size + 1 + 1 + 1) (w.heap.size + 1 + 1) k D A n c nO vs l hn1 (by rw [HLL.out]; exact hnl) hv hB hM HD.out hvs hn)
      have HS5 := hide hS
      clear x1 x2 x3 x4 x5 i1 i4 HD hS
      go_wp2_with fail
      refine (C1.out _ AR nR cR roots (HS5.out.get 3 rfl) (HS5.out.get 2 rfl) hnR (hR.below HS5.out.below_) HVR.out).mono ?_
      rintro e w3 ⟨Ar, cr, rfl, hP⟩
      have hS6 := ((HS5.out.snocNew hP.below_ _ (hP.get 0 rfl) (fun g hg => (hP.lo 0 rfl g hg).resolve_left (fun h => h))).blkAt 27 #[.slice none 0 0, .slice Ar nR cr] (g := w3.heap.size) rfl).nilRow0 119 1
      have HS6 := hide hS6
      clear i2 i3 i5 i6 hP hS6 HS5
      go_wp2_with fail
      go_loopw [32] (fun i wr2 => ∃ (q : Nat) (A' : Option Addr) (c' : Nat) (obs' : List Ob), q ≤ k ∧ i = .int .i64 q ∧ Hid (obs'.map Ob.fields = (renumF fss l).take q) ∧
        Sep No w wr2 (rowI 119 1 A' q c' (obs'.map Ob.val) :: blkI w.heap.size 27 #[.slice AO nO cO, .slice AR nR cR] :: blkI (w.heap.size + 1) 27 #[.slice none 0 0, .slice none 0 0] :: imL (w.heap.size + 1 + 1) k D :: blkI (w.heap.size + 1 + 1 + 1) 275 #[.map (some (w.heap.size + 1 + 1))] :: rowI 107 2 Ar nR cr (vals (roots.map (turnL l))) :: blkI w3.heap.size 27 #[.slice A' q c', .slice Ar nR cr] :: obs'.map obI)) (fun i _ => k - (intOf i).toNat)
      case atStart => exact ⟨0, none, 0, [], by omega, rfl, by simp [Hid], HS6.out⟩
      case round =>
        clear HS6
        obtain ⟨q, A', c', obs', hq, rfl, HO, hS⟩ := hrel
        by_cases hlq : q < k
        · have hkl : q < l.length := by rw [HLL.out]; exact hlq
          obtain ⟨ad, hA, _, had, hc⟩ := (hl.below hS.below_).at_ hlq
          have e0 := hc (.int .i64 l[q]) (by simp [ints, List.getElem?_eq_getElem hkl])
          obtain ⟨r1, r2⟩ := HLR.out _ (List.getElem_mem hkl)
          have HT := hide (renumF_take fss l q hkl)
          obtain ⟨x, hx⟩ := int_nat r1
          rw [hx] at e0 r2 HT
          have hxn : x < nO := by omega
          have hxl : x < obs.length := by rw [HOL.out]; exact hxn
          obtain ⟨ad2, hA2, _, had2, hc2⟩ := (hO.below hS.below_).row.at_ hxn
          have e1 := hc2 obs[x].val (by simp [List.getElem?_eq_getElem hxl])
          have hEach := hO.each _ (List.getElem_mem hxl)
          have hFl := hO.flen (List.getElem_mem hxl)
          have hfi : fieldsI fss (x : Int) = obs[x].fields := by
            unfold fieldsI
            rw [← H3.out, List.getD_eq_getElem?_getD]
            simp [List.getElem?_eq_getElem hxl]
          have hfm : obs[x].fields ∈ fss := by rw [← H3.out]; exact List.mem_map.2 ⟨_, List.getElem_mem hxl, rfl⟩
          have hfb := HF.out _ hfm
          have hvb := HVG.out _ hfm
          obtain ⟨o, ho⟩ : ∃ o, obs[x] = o := ⟨_, rfl⟩
          rw [hfi] at HT
          rw [ho] at e1 hEach hFl hfb hvb HT
          unfold Ob.val at e1
          rw [hFl] at hfb
          have C := hide (fun W (hb : Below w.heap.size w W) (hB : Blk W (w.heap.size + 1 + 1 + 1) 275 #[.map (some (w.heap.size + 1 + 1))]) (hM : (imL (w.heap.size + 1 + 1) k D).P W) => C1.out W o.A o.n o.c o.fields hB hM hfb (hEach.below hb) hvb)
          obtain ⟨i1, i2, i3, i4⟩ := hS.rules 1 (g := w.heap.size) (t := 27) rfl
          obtain ⟨j1, j2, j3, j4⟩ := hS.rules 6 (g := w3.heap.size) (t := 27) rfl
          have i5 : wr.cell? ⟨w.heap.size, 0, none⟩ = some (.slice AO nO cO) := by rw [i1]; rfl
          have j5 : wr.cell? ⟨w3.heap.size, 0, none⟩ = some (.slice A' q c') := by rw [j1]; rfl
          have i0 : (0 : Int) ≤ x := by omega
          have hq0 : (0 : Int) ≤ (q : Int) := by omega
          have hq1 : (q : Int) < (k : Int) := by omega
          subst hA hA2
          have HS := hide hS
          clear hc hc2 r1 r2 hx hfi hFl hfb hEach ho hS i1 j1 i4 j4 had2 hfm hvb
          go_wp2_with fail
          clear e0
          go_region_law (first
            | (refine step_app1 (cs := #[.slice A5 o.n c5]) rfl (.tmp 37) (.tmp 47) 24 rfl (F := No) (W := w) sObj (items := _ :: _ :: _ :: _ :: _ :: _ :: _ :: _) hS5 0 (n := q) rfl rfl rfl (by simp) rfl rfl (by omega) ?_
               intro A7 c7 w7 hS7 hC7
               obtain ⟨z1, z2, z3, z4⟩ := hS7.rules 6 (g := w3.heap.size) (t := 27) rfl
               (have z5 : w7.cell? ⟨w3.heap.size, 0, none⟩ = some (.slice A' q c') := by rw [z1]; rfl)
               clear z1 z4)
            | (try go_simp
               go_at_call 164
               refine (C.out wr.drew HS.out.drew.below_ (HS.out.drew.get 4 rfl) (HS.out.drew.get 3 rfl)).mono ?_
               rintro e w4 ⟨A5, c5, rfl, hP5⟩
               have hS5 := HS.out.drew.snocNew hP5.below_ _ (hP5.get 0 rfl) (fun g hg => (hP5.lo 0 rfl g hg).resolve_left (fun h => h))
               obtain ⟨x1, x2, x3, x4⟩ := hS5.rules 6 (g := w3.heap.size) (t := 27) rfl
               (have x5 : w4.cell? ⟨w3.heap.size, 0, none⟩ = some (.slice A' q c') := by rw [x1]; rfl)
               clear x1 x4))
          all_goals
            go_wp2_with fail
            go_roundw
            case rel =>
              refine ⟨q + 1, A7, c7, obs' ++ [⟨A5, o.n, c5, o.fields.map (turnL l)⟩], by omega, by go_num, ?_, ?_⟩
              · show _ = _
                rw [HT.out, ← HO.out]
                simp
              · rw [obs_snoc_, List.map_append]
                exact hS7.set_ 6 (g := w3.heap.size) (t := 27) rfl 0 (.slice A7 (q + 1) c7)
            case measure => simp [intOf]; omega
        · obtain rfl : q = k := by omega
          have hO2 : obs'.map Ob.fields = renumF fss l := by
            rw [HO.out]; exact List.take_of_length_le (by unfold renumF; rw [List.length_map, HLL.out]; omega)
          have HO2 := hide hO2
          obtain ⟨j1, j2, j3, j4⟩ := hS.rules 6 (g := w3.heap.size) (t := 27) rfl
          obtain ⟨y1, y2, y3, y4⟩ := hS.rules 2 (g := w.heap.size + 1) (t := 27) rfl
          have HS := hide hS
          clear hO2 hS HO
          go_wp2_with fail
          have hF := (HS.out.set_ 2 (g := w.heap.size + 1) (t := 27) rfl 0 (.slice A' q c')).set_ 2 (g := w.heap.size + 1) (t := 27) rfl 1 (.slice Ar nR cr)
          refine bodyPost_ret (v := .agg #[.slice A' q c', .slice Ar nR cr]) (by simp [results, Try.results111, go_sem, y1]) rfl ⟨_, rfl, hF.below_, ?_⟩
          refine ⟨_, _, _, _, _, _, obs', rfl, obs_read hF (fun o ho => ?_) 0 rfl, HO2.out, hF.rd 5 rfl⟩
          simp only [List.set_cons_succ, List.set_cons_zero, List.mem_cons, List.mem_map]
          exact .inr (.inr (.inr (.inr (.inr (.inr (.inr ⟨o, ho, rfl⟩))))))
end Go.Proofs.Ytjphckfbbiehdaa
