/- arena: the reference's Lay with any headers. arena: rows of words that are objects: the model; the closure of the program's Check. arena: the program's Walk with Check's closure. -/
import Derived.Test.YtpbafmdebflbpaaGMarkTells4
import Derived.Maps.OwnSet
set_option linter.unusedSimpArgs false
set_option linter.unusedVariables false
namespace Go.Proofs.Ytpbafmdebflbpaa
open Go.RowKit

/-- A header: how many fields, a mark, an age. -/
abbrev Hd := Int × Bool × Int
def HdOk (h : Hd) : Prop := 0 ≤ h.1 ∧ h.1 ≤ 4 ∧ 0 ≤ h.2.2 ∧ h.2.2 ≤ 7
def hcells (l : List Hd) : List Value := l.flatMap fun h => [.int .i64 h.1, .bool h.2.1, .int .i64 h.2.2]
theorem hcells_length (l : List Hd) : (hcells l).length = l.length * 3 := by
  unfold hcells; induction l with
  | nil => rfl
  | cons a l ih => simp [List.flatMap_cons] at ih ⊢; omega
theorem hcells_at (l : List Hd) (k : Nat) (h : k < l.length) : (hcells l)[k * 3]? = some (.int .i64 l[k].1) ∧ (hcells l)[k * 3 + (0 + 1)]? = some (.bool l[k].2.1) ∧ (hcells l)[k * 3 + (1 + 1)]? = some (.int .i64 l[k].2.2) := by
  unfold hcells
  induction l generalizing k with
  | nil => simp at h
  | cons a l ih =>
    cases k with
    | zero => exact ⟨rfl, rfl, rfl⟩
    | succ k =>
      have h' : k < l.length := by simpa using h
      have := ih k h'
      simp only [List.flatMap_cons]
      rw [show (k + 1) * 3 = k * 3 + 3 from by omega]
      simpa [Nat.add_right_comm _ 3] using this
theorem hcells_snoc (l : List Hd) (h : Hd) : hcells (l ++ [h]) = hcells l ++ [.int .i64 h.1, .bool h.2.1, .int .i64 h.2.2] := by simp [hcells]
def wordsZ (at_ : List Int) (l : List (Ob × Hd)) : List Int := l.flatMap fun z => headW z.2.1 z.2.2.1 z.2.2.2 :: z.1.fields.map (packV at_)
theorem wordsZ_snoc (at_ : List Int) (l : List (Ob × Hd)) (z : Ob × Hd) : wordsZ at_ (l ++ [z]) = wordsZ at_ l ++ headW z.2.1 z.2.2.1 z.2.2.2 :: z.1.fields.map (packV at_) := by simp [wordsZ]
theorem wordsZ_len (at_ : List Int) (l : List (Ob × Hd)) (h : ∀ z ∈ l, z.1.fields.length ≤ 4) : (wordsZ at_ l).length ≤ 5 * l.length := by
  induction l with
  | nil => simp [wordsZ]
  | cons a l ih =>
    have h1 := h a (by simp)
    have h2 := ih (fun o ho => h o (by simp [ho]))
    unfold wordsZ at *
    simp only [List.flatMap_cons, List.length_append, List.length_cons, List.length_map]
    omega
theorem zip_take {α β : Type} (a : List α) (b : List β) (j : Nat) (ha : j < a.length) (hb : j < b.length) : (a.zip b).take (j + 1) = (a.zip b).take j ++ [(a[j], b[j])] := by
  rw [List.take_succ_eq_append_getElem (by rw [List.length_zip]; omega)]
  simp

set_option maxRecDepth 100000 in
set_option maxHeartbeats 16000000 in
theorem layG_any (w : World) (AO AR AH : Option Addr) (nO cO nR cR cH : Nat) (obs : List Ob) (roots : List Val) (hO : ObsRd w (fun _ => True) AO nO obs) (hR : Rd w (fun _ => True) 2 AR nR (vals roots)) (hs : List Hd) (hsl : hs.length = nO) (hsb : ∀ h ∈ hs, HdOk h) (hH : Rd w (fun _ => True) 3 AH nO (hcells hs)) (h1 : nO ≤ 256) (h2 : nR ≤ 8) (hfl : ∀ o ∈ obs, o.n ≤ 4)
    (hvO : ∀ o ∈ obs, ∀ v ∈ o.fields, v.1 = true → 0 ≤ v.2 ∧ v.2 < nO) (hvR : ∀ v ∈ roots, v.1 = true → 0 ≤ v.2 ∧ v.2 < nO) :
    Calls Try.prog 29 #[.agg #[.slice AO nO cO, .slice AR nR cR], .slice AH nO cH] w fun e w' => ∃ v, e = .returned v ∧ Below w.heap.size w w' ∧ ArenaRd w w' v (wordsZ (atL obs nO) (obs.zip hs)) (roots.map (packV (atL obs nO))) := by
  have HOL := hide hO.len
  have HSB := hide (fun k => sAt_bound obs k hfl)
  have HFL := hide hfl
  have HSL := hide hsl
  have HSO := hide hsb
  have HZL := hide (show (obs.zip hs).length = nO by rw [List.length_zip, hO.len, hsl]; omega)
  have HVO := hide hvO
  have HVR := hide hvR
  have HS0 := hide ((((Sep.nil No w).blkAt 52 #[.slice AO nO cO, .slice AR nR cR] rfl).blkAt 55 #[.slice none 0 0, .slice none 0 0] (g := w.heap.size + 1) (by simp)).nilRow0 2 1)
  clear hfl hvO hvR hsl hsb
  go_enter Try.func29, Try.ntmps29
  go_wp2_with fail
  go_loopw [5, 6, 19] (fun s5 s6 i wr => ∃ (k : Nat) (A : Option Addr) (c : Nat), k ≤ nO ∧ i = .int .i64 k ∧ s5 = .slice A k c ∧ s6 = .int .i64 (sAt obs k) ∧ Sep No w wr (rowI 2 1 A k c (ints (atL obs k)) :: [blkI w.heap.size 52 #[.slice AO nO cO, .slice AR nR cR], blkI (w.heap.size + 1) 55 #[.slice none 0 0, .slice none 0 0]])) (fun _ _ i _ => nO - (intOf i).toNat)
  case atStart => exact ⟨0, none, 0, by omega, rfl, rfl, by simp [sAt], by simpa [atL] using HS0.out⟩
  case round =>
    clear HS0
    obtain ⟨k, A, c, hk, rfl, rfl, rfl, hS⟩ := hrel
    by_cases hlt : k < nO
    · have hkl : k < obs.length := by rw [HOL.out]; exact hlt
      obtain ⟨ad, hA, _, had, hc⟩ := (hO.below hS.below_).row.at_ hlt
      have e0 := hc obs[k].val (by simp [List.getElem?_eq_getElem hkl])
      have hon := HFL.out _ (List.getElem_mem hkl)
      have HT := hide (List.take_succ_eq_append_getElem hkl)
      obtain ⟨o, ho⟩ : ∃ o, obs[k] = o := ⟨_, rfl⟩
      rw [ho] at e0 HT hon
      have HA := hide (sAt_succ obs k o HT.out)
      unfold Ob.val at e0
      subst hA
      obtain ⟨b1, b2⟩ := HSB.out k
      obtain ⟨y, hy⟩ : ∃ y, sAt obs k = y := ⟨_, rfl⟩
      have HY := hide hy
      rw [hy] at b1 b2 ⊢
      clear hc ho hy
      go_wp2_with (first
        | (at_builtin
           refine wpList_app1 (cs := #[.int .i64 y]) rfl (.tmp 23) (.tmp 25) 108 rfl sI64 (hS.alloc _) 0 (n := k) rfl rfl rfl (by simp) rfl rfl (by omega) ?_
           intro A4 c4 w4 hS4 hC4
           (have e4 : w4.cell? ⟨wr.heap.size, 0, none⟩ = some (.slice o.A o.n o.c) := by
              have hB := (Blk.new wr 110 #[.slice o.A o.n o.c]).chg hC4 (fun h => by have := hS.hi 0 rfl _ h; omega)
              rw [hB.cell]; rfl)))
      go_roundw
      case rel =>
        refine ⟨k + 1, A4, c4, by omega, by go_num, rfl, ?_, ?_⟩
        · rw [HA.out, HY.out]; go_num
        · rw [atL_succ, HY.out, ints_snoc]; exact hS4
      case measure => simp [intOf]; omega
    · obtain rfl : k = nO := by omega
      obtain ⟨g1, g2, g3, g4⟩ := hS.rules 1 (g := w.heap.size) (t := 52) rfl
      go_wp2_with fail
      refine (packed_any wr AR A nR cR k c roots (atL obs k) (by omega) (by omega) (hR.below hS.below_) (hS.rd_ 0 rfl) HVR.out).mono ?_
      rintro e w3 ⟨Ar, cr, rfl, hP⟩
      have hS3 := hS.snocNew hP.below_ _ (hP.get 0 rfl) (fun g hg => (hP.lo 0 rfl g hg).resolve_left (fun h => h))
      clear g1 g2 g3 g4
      obtain ⟨g1, g2, g3, g4⟩ := hS3.rules 1 (g := w.heap.size) (t := 52) rfl
      have HS4 := hide ((hS3.blkAt 55 #[.slice none 0 0, .slice Ar nR cr] rfl).nilRow0 24 1)
      clear hS hP hS3
      go_wp2_with fail
      clear g1 g2 g3 g4
      go_loopw [42] (fun i w5 => ∃ (j m : Nat) (Aw : Option Addr) (cw : Nat), j ≤ k ∧ i = .int .i64 j ∧ Sep No w w5 [rowI 24 1 Aw m cw (u64s (wordsZ (atL obs k) ((obs.zip hs).take j))), rowI 2 1 A k c (ints (atL obs k)), blkI w.heap.size 52 #[.slice AO k cO, .slice AR nR cR], blkI (w.heap.size + 1) 55 #[.slice none 0 0, .slice none 0 0], rowI 24 1 Ar nR cr (u64s (roots.map (packV (atL obs k)))), blkI w3.heap.size 55 #[.slice Aw m cw, .slice Ar nR cr]]) (fun i _ => k - (intOf i).toNat)
      case atStart => exact ⟨0, 0, none, 0, by omega, rfl, HS4.out⟩
      case round =>
        clear HS4
        obtain ⟨j, m, Aw, cw, hj, rfl, hS⟩ := hrel
        have hm := u64s_row hS 0 rfl
        have hml := wordsZ_len (atL obs k) ((obs.zip hs).take j) (fun z hz => by
          have h5 := (List.of_mem_zip (List.mem_of_mem_take hz)).1
          rw [hO.flen h5]
          exact HFL.out _ h5)
        have hm2 : m ≤ 5 * j := by
          rw [List.length_take] at hml
          omega
        clear hm hml
        by_cases hlt2 : j < k
        · have hjl : j < obs.length := by rw [HOL.out]; exact hlt2
          obtain ⟨ad, hA, _, had, hc⟩ := (hO.below hS.below_).row.at_ hlt2
          have e0 := hc obs[j].val (by simp [List.getElem?_eq_getElem hjl])
          have hjs : j < hs.length := by rw [HSL.out]; exact hlt2
          obtain ⟨v0, v1, v2⟩ := hcells_at hs j hjs
          have hhd := HSO.out _ (List.getElem_mem hjs)
          have hon := HFL.out _ (List.getElem_mem hjl)
          have hEach := hO.each _ (List.getElem_mem hjl)
          have hVo := HVO.out _ (List.getElem_mem hjl)
          have hFl := hO.flen (List.getElem_mem hjl)
          have HT := hide (zip_take obs hs j hjl hjs)
          obtain ⟨o, ho⟩ : ∃ o, obs[j] = o := ⟨_, rfl⟩
          rw [ho] at e0 HT hon hEach hVo hFl
          obtain ⟨⟨hl, hm, ha⟩, hh⟩ : ∃ h, hs[j] = h := ⟨_, rfl⟩
          rw [hh] at v0 v1 v2 HT hhd
          dsimp only at v0 v1 v2
          obtain ⟨q1, q2, q3, q4⟩ := hhd
          dsimp only at q1 q2 q3 q4
          unfold Ob.val at e0
          subst hA
          have HVo := hide hVo
          have hS5 := hS.blkAt 110 #[.slice o.A o.n o.c] rfl
          obtain ⟨ad2, hA2, _, had2, hc2, hd2⟩ := (hH.below hS5.below_).atN hlt2
          have t0 := hc2 _ v0
          have t1 := hd2 0 _ v1
          have t2 := hd2 1 _ v2
          subst hA2
          have hneA : w3.heap.size ≠ wr.heap.size := by have := hS.hi 5 rfl w3.heap.size rfl; omega
          clear hc ho hc2 hd2 v0 v1 v2 hVo hh
          go_wp2_with fail
          refine (head15_ok _ hl ha hm q1 q2 q3 q4).mono ?_
          rintro e w6 ⟨rfl, hB6⟩
          have hS6 := hS5.below hB6
          clear hS5 hB6 e0 t0 t1 t2 had had2
          obtain ⟨a1, a2, a3, a4⟩ := hS6.rules 5 (g := w3.heap.size) (t := 55) rfl
          go_wp2_with (first
            | (at_builtin
               refine wpList_app1 (cs := #[.int .u64 (headW hl hm ha)]) rfl (.tmp 56) (.tmp 58) 53 rfl sWord hS6 0 (n := m) rfl rfl rfl (by simp) rfl rfl (by omega) ?_
               intro A7 c7 w7 hS7 hC7
               obtain ⟨z1, z2, z3, z4⟩ := hS7.rules 5 (g := w3.heap.size) (t := 55) rfl
               (have z5 : ∀ v, (w7.setCell ⟨w3.heap.size, 0, none⟩ v).cell? ⟨wr.heap.size, 0, none⟩ = some (.slice o.A o.n o.c) := fun v => by
                  rw [World.cell?_setCell_other _ _ _ _ (fun e => hneA (congrArg Addr.block e))]
                  obtain ⟨q1, _⟩ := hS7.rules 6 (g := wr.heap.size) (t := 110) rfl
                  rw [q1]; rfl)))
          have hS8 := hS7.set_ 5 (g := w3.heap.size) (t := 55) rfl 0 (.slice A7 (m + 1) c7)
          refine (packed_any _ o.A A o.n o.c k c o.fields (atL obs k) (by omega) (by omega) (hEach.below hS8.below_) (hS8.rd_ 1 rfl) HVo.out).mono ?_
          rintro e w9 ⟨Ap, cp, rfl, hP9⟩
          have hS9 := hS8.snocNew hP9.below_ _ (hP9.get 0 rfl) (fun g hg => (hP9.lo 0 rfl g hg).resolve_left (fun h => h))
          have HS9 := hide hS9
          clear hS hS6 hS7 hS8 hS9 hP9 a1 a2 a3 a4 z1 z2 z3 z4 z5 hC7
          go_wp2_with fail
          go_loopw [66] (fun i w5 => ∃ (p m : Nat) (Aw : Option Addr) (cw : Nat), p ≤ o.n ∧ i = .int .i64 p ∧ m ≤ 5 * j + 1 + p ∧ Sep No w w5 [rowI 24 1 Aw m cw (u64s (wordsZ (atL obs k) ((obs.zip hs).take j) ++ [headW hl hm ha] ++ (o.fields.map (packV (atL obs k))).take p)), rowI 2 1 A k c (ints (atL obs k)), blkI w.heap.size 52 #[.slice (some ad) k cO, .slice AR nR cR], blkI (w.heap.size + 1) 55 #[.slice none 0 0, .slice none 0 0], rowI 24 1 Ar nR cr (u64s (roots.map (packV (atL obs k)))), blkI w3.heap.size 55 #[.slice Aw m cw, .slice Ar nR cr], blkI wr.heap.size 110 #[.slice o.A o.n o.c], rowI 24 1 Ap o.n cp (u64s (o.fields.map (packV (atL obs k))))]) (fun i _ => o.n - (intOf i).toNat)
          case atStart => exact ⟨0, m + 1, A7, c7, by omega, rfl, by omega, by simpa [u64s] using HS9.out⟩
          case round =>
            clear HS9 hm2
            obtain ⟨p, m, Aw, cw, hp, rfl, hm2, hS⟩ := hrel
            by_cases hlp : p < o.n
            · have hpl : p < (o.fields.map (packV (atL obs k))).length := by rw [List.length_map]; omega
              obtain ⟨ad3, hA3, _, had3, hc3⟩ := (hS.rd_ 7 rfl).at_ hlp
              have e0 := hc3 (.int .u64 (o.fields.map (packV (atL obs k)))[p]) (by simp [u64s, List.getElem?_eq_getElem (show p < o.fields.length by omega)])
              have HT3 := hide (List.take_succ_eq_append_getElem hpl)
              obtain ⟨y, hy⟩ : ∃ y, (o.fields.map (packV (atL obs k)))[p] = y := ⟨_, rfl⟩
              rw [hy] at e0 HT3
              rw [hA3]
              have HA3 := hide hA3
              obtain ⟨a1, a2, a3, a4⟩ := hS.rules 5 (g := w3.heap.size) (t := 55) rfl
              clear hc3 hy hA3
              go_wp2_with (first
                | (at_builtin
                   refine wpList_app1 (cs := #[.int .u64 y]) rfl (.tmp 71) (.tmp 73) 53 rfl sWord hS 0 (n := m) rfl rfl rfl (by simp) rfl rfl (by omega) ?_
                   intro A4 c4 w4 hS4 hC4
                   obtain ⟨z1, z2, z3, z4⟩ := hS4.rules 5 (g := w3.heap.size) (t := 55) rfl))
              go_roundw
              case rel =>
                refine ⟨p + 1, m + 1, A4, c4, by omega, by go_num, by omega, ?_⟩
                rw [HT3.out, ← List.append_assoc, u64s_snoc, ← HA3.out]
                exact hS4.set_ 5 (g := w3.heap.size) (t := 55) rfl 0 (.slice A4 (m + 1) c4)
              case measure => simp [intOf]; omega
            · obtain rfl : p = o.n := by omega
              rw [show (o.fields.map (packV (atL obs k))).take o.n = o.fields.map (packV (atL obs k)) from List.take_of_length_le (by rw [List.length_map]; omega)] at hS
              have hS' := hS.sub (List.take_sublist 6 _)
              go_wp2_with fail
              go_roundw
              case rel => exact ⟨j + 1, m, Aw, cw, by omega, by go_num, by rw [HT.out, wordsZ_snoc, List.append_cons]; exact hS'⟩
              case measure => simp [intOf]; omega
        · obtain rfl : j = k := by omega
          rw [show (obs.zip hs).take j = obs.zip hs from List.take_of_length_le (by rw [HZL.out]; omega)] at hS
          obtain ⟨a1, a2, a3, a4⟩ := hS.rules 5 (g := w3.heap.size) (t := 55) rfl
          obtain ⟨y1, y2, y3, y4⟩ := hS.rules 3 (g := w.heap.size + 1) (t := 55) rfl
          go_wp2_with fail
          have hF := (hS.set_ 3 (g := w.heap.size + 1) (t := 55) rfl 0 (.slice Aw m cw)).set_ 3 (g := w.heap.size + 1) (t := 55) rfl 1 (.slice Ar nR cr)
          refine bodyPost_ret (v := .agg #[.slice Aw m cw, .slice Ar nR cr]) (by simp [results, Try.results29, go_sem, y1]) rfl ⟨_, rfl, hF.below_, ?_⟩
          exact ⟨_, _, _, _, _, _, rfl, hF.rd 0 rfl, hF.rd 4 rfl⟩

/-! ### In terms of what the graph reads. -/
def atF (fss : List (List Val)) : List Int := (List.range fss.length).map fun k => ((fss.take k).map fun f => (1 : Int) + (f.length : Int)).sum
def layW (fss : List (List Val)) (hs : List Hd) : List Int := (fss.zip hs).flatMap fun z => headW z.2.1 z.2.2.1 z.2.2.2 :: z.1.map (packV (atF fss))
theorem atL_atF {w : World} {D : Nat → Prop} {A : Option Addr} {n : Nat} {obs : List Ob} (h : ObsRd w D A n obs) : atL obs n = atF (obs.map Ob.fields) := by
  unfold atL atF
  rw [List.length_map, h.len]
  refine List.map_congr_left fun k _ => ?_
  unfold sAt
  rw [← List.map_take, List.map_map]
  congr 1
  refine List.map_congr_left fun o ho => ?_
  simp [h.flen (List.mem_of_mem_take ho)]
theorem wordsZ_lay (at_ : List Int) (obs : List Ob) (hs : List Hd) : wordsZ at_ (obs.zip hs) = ((obs.map Ob.fields).zip hs).flatMap fun z => headW z.2.1 z.2.2.1 z.2.2.2 :: z.1.map (packV at_) := by
  unfold wordsZ
  rw [List.zip_map_left, List.flatMap_map]
  rfl

theorem refLayG_any (w : World) (v : Value) (AH : Option Addr) (nH cH : Nat) (fss : List (List Val)) (roots : List Val) (hs : List Hd) (h : GraphRd w (fun _ => True) v fss roots) (hsl : hs.length = fss.length) (hsb : ∀ h ∈ hs, HdOk h) (hH : Rd w (fun _ => True) 3 AH nH (hcells hs)) (h1 : fss.length ≤ 256) (h2 : roots.length ≤ 8) (hf : ∀ fs ∈ fss, fs.length ≤ 4)
    (hg : ∀ fs ∈ fss, ∀ v ∈ fs, v.1 = true → 0 ≤ v.2 ∧ v.2 < (fss.length : Int)) (hv : ∀ v ∈ roots, v.1 = true → 0 ≤ v.2 ∧ v.2 < (fss.length : Int)) :
    Calls Try.prog 29 #[v, .slice AH nH cH] w fun e w' => ∃ v', e = .returned v' ∧ Below w.heap.size w w' ∧ ArenaRd w w' v' (layW fss hs) (roots.map (packV (atF fss))) := by
  obtain ⟨AO, nO, cO, AR, nR, cR, obs, rfl, hO, h3, hR⟩ := h.ex
  have hlen : fss.length = nO := by rw [← h3, List.length_map]; exact hO.len
  have hnH : nH = nO := by have := hH.1; rw [hcells_length] at this; omega
  have hrl : roots.length = nR := by have := hR.1; rw [vals_length] at this; omega
  subst hnH
  rw [hlen] at h1 hg hv
  have key := layG_any w AO AR AH nH cO nR cR cH obs roots hO hR hs (by omega) hsb hH h1 (by omega) (fun o ho => by
    rw [← hO.flen ho]; exact hf _ (by rw [← h3]; exact List.mem_map.2 ⟨o, ho, rfl⟩)) (fun o ho v hv' => hg _ (by rw [← h3]; exact List.mem_map.2 ⟨o, ho, rfl⟩) v hv') hv
  rw [atL_atF hO, h3] at key
  rw [wordsZ_lay, h3] at key
  exact key
end Go.Proofs.Ytpbafmdebflbpaa

namespace Go.Proofs.Ytpbafmdebflbpaa
open Go.RowKit Go.Maps

/-- A map from places to lengths, of the call's own. -/
def mapI (b n : Nat) (D : DataW Unit) : Item where
  fp k := k = b
  P w := w.ownsMap Try.prog 2 (plainElem Try.prog 3) b n D
  dom w h k hk := by subst hk; exact World.ownsMap.lt h
  loc w w' _ hk h := by obtain ⟨es, clock, hb, r⟩ := h; exact ⟨es, clock, (hk b rfl).trans hb, r⟩

instance unheadOK.dec (n : Int) : Decidable (unheadOK n) := by unfold unheadOK; infer_instance

/-- The objects of a row of words from a place on: where each begins, how many fields; and whether it is a row of objects. -/
def parse : Nat → List Int → Nat → List (Nat × Nat) × Bool
  | 0, ws, at_ => ([], decide (ws.length ≤ at_))
  | f + 1, ws, at_ =>
    if at_ < ws.length then
      if unheadOK (ws.getD at_ 0) ∧ hLen (ws.getD at_ 0) < (ws.length : Int) - at_ then
        ((at_, (hLen (ws.getD at_ 0)).toNat) :: (parse f ws (at_ + 1 + (hLen (ws.getD at_ 0)).toNat)).1, (parse f ws (at_ + 1 + (hLen (ws.getD at_ 0)).toNat)).2)
      else ([], false)
    else ([], true)
def mapD (l : List (Nat × Nat)) : DataW Unit := l.foldl (fun D p => D.put (.int .i64 p.1) (.lit (.int .i64 p.2))) (.map [])
def fieldsOf (ws : List Int) (l : List (Nat × Nat)) : List Int := l.flatMap fun p => (ws.drop (p.1 + 1)).take p.2
theorem mapD_snoc (l : List (Nat × Nat)) (p : Nat × Nat) : mapD (l ++ [p]) = (mapD l).put (.int .i64 p.1) (.lit (.int .i64 p.2)) := by simp [mapD]
theorem fieldsOf_snoc (ws : List Int) (l : List (Nat × Nat)) (p : Nat × Nat) : fieldsOf ws (l ++ [p]) = fieldsOf ws l ++ (ws.drop (p.1 + 1)).take p.2 := by simp [fieldsOf]

theorem u64s_one (l : List Int) : ∀ v ∈ u64s l, v.oneCell' = true := by
  intro v hv
  obtain ⟨x, _, rfl⟩ := List.mem_map.1 hv
  rfl
/-- What Check's closure has in hand. -/
def CkItems (b bm bf ba nn : Nat) (D : DataW Unit) (Af : Option Addr) (nf cf : Nat) (xs : List Int) (Aw : Option Addr) (nw cw : Nat) (Ar : Option Addr) (nr cr : Nat) : List Item :=
  [mapI b nn D, rowI 24 1 Af nf cf (u64s xs), blkI bm 135 #[.map (some b)], blkI bf 53 #[.slice Af nf cf], blkI ba 55 #[.slice Aw nw cw, .slice Ar nr cr]]

set_option maxRecDepth 100000 in
set_option maxHeartbeats 4000000 in
theorem check1_any (w : World) (Dw : Nat → Prop) (b bm bf ba nn : Nat) (D : DataW Unit) (Af : Option Addr) (nf cf : Nat) (xs : List Int) (Aw : Option Addr) (nw cw : Nat) (Ar : Option Addr) (nr cr at_ len : Nat) (mk : Bool) (age : Int) (ws : List Int)
    (hs : (allI (CkItems b bm bf ba nn D Af nf cf xs Aw nw cw Ar nr cr)).P w) (hD : ∀ g, (allI (CkItems b bm bf ba nn D Af nf cf xs Aw nw cw Ar nr cr)).fp g → ¬ Dw g) (hw : Rd w Dw 1 Aw nw (u64s ws)) (hcw : nw ≤ cw) (hcw2 : cw ≤ 9223372036854775807) (hn : nw ≤ 256) (hnn : nn ≤ 256) (hnf : nf ≤ 2000) (hat : at_ + 1 + len ≤ nw) :
    Calls Try.prog 75 #[.int .i64 at_, .agg #[.int .i64 len, .bool mk, .int .i64 age], .pointer (some ⟨bm, 0, none⟩), .pointer (some ⟨bf, 0, none⟩), .pointer (some ⟨ba, 0, none⟩)] w fun e w' => ∃ Af' cf', e = .returned (.bool true) ∧
      Sep (allI (CkItems b bm bf ba nn D Af nf cf xs Aw nw cw Ar nr cr)).fp w w' [allI (CkItems b bm bf ba (nn + 1) (D.put (.int .i64 at_) (.lit (.int .i64 len))) Af' (nf + len) cf' (xs ++ (ws.drop (at_ + 1)).take len) Aw nw cw Ar nr cr)] := by
  obtain ⟨F, hF⟩ : ∃ F, (allI (CkItems b bm bf ba nn D Af nf cf xs Aw nw cw Ar nr cr)).fp = F := ⟨_, rfl⟩
  have hS := (Sep.start hs).flat
  rw [hF] at hS hD ⊢
  clear hF hs
  have hS1 := hS.blkAt 23 #[.int .i64 len, .bool mk, .int .i64 age] rfl
  have hown : (w.alloc (.cells #[.int .i64 len, .bool mk, .int .i64 age] 23)).ownsMap Try.prog 2 (plainElem Try.prog 3) b nn D := hS1.get 0 rfl
  obtain ⟨m1, m2, m3, m4⟩ := hS.rules 2 (g := bm) (t := 135) rfl
  have m5 : w.cell? ⟨bm, 0, none⟩ = some (.map (some b)) := by rw [m1]; rfl
  have hwf1 : (Lit.int .i64 (at_ : Int)).wf = true := WalkArith.wf_i64 (by omega)
  have hwf2 : (Lit.int .i64 (len : Int)).wf = true := WalkArith.wf_i64 (by omega)
  have HS1 := hide hS1
  clear m1 hS hS1
  go_enter Try.func75, Try.ntmps75
  go_wp2_with (first
    | (at_mapUpdate
       refine wpList_mapUpdate_own _ rfl _ _ _ 135 rfl 2 3 (int_keyed Try.underlying2) Try.underlying135 _ b nn _ rfl hown (by unfold maxLen; omega) _ _ _ rfl rfl (keyOf_int_mk Try.underlying2 hwf1) _ [] (plainElem_int Try.underlying3 hwf2) ?_
       intro w1 hown1 hgrow1))
  have hS2 := HS1.out.step 0 rfl ((Chg.of_grown hgrow1).mono (fun g hx => .inl (by injection hx with hx; exact hx.symm))) (mapI b (nn + 1) (D.put (.int .i64 at_) (.lit (.int .i64 len)))) hown1 (fun g hg => .inl hg)
  have hSb : Sep F w w1 (CkItems b bm bf ba (nn + 1) (D.put (.int .i64 at_) (.lit (.int .i64 len))) Af nf cf xs Aw nw cw Ar nr cr ++ [blkI w.heap.size 23 #[.int .i64 len, .bool mk, .int .i64 age]]) := hS2
  have hS3 : Sep F w w1 (CkItems b bm bf ba (nn + 1) (D.put (.int .i64 at_) (.lit (.int .i64 len))) Af nf cf xs Aw nw cw Ar nr cr) := hSb.sub (by simp)
  have hwl : ws.length = nw := by have := hw.1; simpa [u64s] using this
  obtain ⟨ad, rfl, hw0, hw1, hwc⟩ := hw.2 (by omega)
  have hR : Rd w1 Dw 1 (some ad) nw (u64s ws) := hw.chg hSb.bel hD
  obtain ⟨f1, f2, f3, f4⟩ := hSb.rules 3 (g := bf) (t := 53) rfl
  obtain ⟨a1, a2, a3, a4⟩ := hSb.rules 4 (g := ba) (t := 55) rfl
  obtain ⟨h1, h2, h3, h4⟩ := hSb.rules 5 (g := w.heap.size) (t := 23) rfl
  have f5 : w1.cell? ⟨bf, 0, none⟩ = some (.slice Af nf cf) := by rw [f1]; rfl
  have a5 : w1.cell? ⟨ba, 0, none⟩ = some (.slice (some ad) nw cw) := by rw [a1]; rfl
  have h5 : w1.cell? ⟨w.heap.size, 0, none⟩ = some (.int .i64 len) := by rw [h1]; rfl
  obtain ⟨at1, hat1⟩ : ∃ at1, at1 = at_ + 1 := ⟨_, rfl⟩
  obtain ⟨at2, hat2⟩ : ∃ at2, at2 = at1 + len := ⟨_, rfl⟩
  have w1e : IntKind.i64.wrap ((at_ : Int) + 1) = (at1 : Int) := by
    simp only [IntKind.wrap, IntKind.bits, IntKind.signed]
    subst hat1; go_num
  have w2e : IntKind.i64.wrap ((at1 : Int) + (len : Int)) = (at2 : Int) := by
    simp only [IntKind.wrap, IntKind.bits, IntKind.signed]
    subst hat2 hat1; go_num
  have w3e : max (at2 : Int) 0 = (at2 : Int) := by omega
  have w4e : at2 ≤ cw := by omega
  have w5e : at1 ≤ at2 := by omega
  have HR : Rd w1 (fun _ => True) 1 (if cw = at1 then some ad else some (ad.add at1)) (at2 - at1) (u64s ((ws.drop at1).take len)) := by
    have h6 := (hR.cut (k := at1) (cap := cw) (by omega) hcw).take (k := at2 - at1) (by omega)
    have e6 : ((u64s ws).drop (at1 * 1)).take ((at2 - at1) * 1) = u64s ((ws.drop at1).take len) := by
      rw [Nat.mul_one, Nat.mul_one, show at2 - at1 = len by omega]
      unfold u64s; rw [List.map_take, List.map_drop]
    rw [e6, Nat.mul_one] at h6
    exact h6.more (fun _ _ _ => trivial)
  have HSb : ∀ k, Sep F w (w1.drewN k) (CkItems b bm bf ba (nn + 1) (D.put (.int .i64 at_) (.lit (.int .i64 len))) Af nf cf xs (some ad) nw cw Ar nr cr) := fun k => hS3.drewN k
  have HX := hide (show at2 - at1 = len by omega)
  have HE := hide hat1
  have HON := hide (u64s_one ((ws.drop at1).take len))
  have hbd : (nf + (at2 - at1)) * 8 ≤ 140737488355328 := by omega
  clear f1 a1 h1 hwc hown hown1 hgrow1 HS1 m2 m3 m4 m5 hwf1 hwf2 hS2 hSb hwl hw hat1 hat2 hR hS3
  by_cases hc : cw = at1
  · rw [if_pos hc] at HR
    subst hc
    have hl0 : len = 0 := by have := HX.out; omega
    have h0 : at2 - cw = 0 := by omega
    rw [h0] at HR hbd
    have H0 := hide (show nf + len = nf + 0 by omega)
    clear hl0 h0
    go_region_law (first
      | (refine step_app rfl (.tmp 12) (.tmp 22) 53 rfl sWord (by first | exact HSb 0 | exact (HSb 0).drew) 1 (n := nf) rfl rfl rfl (by first | exact HR | exact HR.below (Below.refl _ _).drew) HON.out hbd ?_
         intro A4 c4 w4 hS4 hC4
         obtain ⟨z1, z2, z3, z4⟩ := hS4.rules 3 (g := bf) (t := 53) rfl
         (have z5 : w4.cell? ⟨bf, 0, none⟩ = some (.slice Af nf cf) := by rw [z1]; rfl)
         clear z1))
    all_goals
      go_wp2_with fail
      go_ret
      have hS5 := hS4.set_ 3 (g := bf) (t := 53) rfl 0 (.slice A4 (nf + 0) c4)
      have e : u64s xs ++ u64s ((ws.drop cw).take len) = u64s (xs ++ (ws.drop (at_ + 1)).take len) := by
        rw [HE.out]; simp [u64s]
      rw [e] at hS5
      first | refine ⟨A4, c4, rfl, ?_⟩ | refine ⟨rfl, A4, c4, ?_⟩
      rw [H0.out]
      exact Sep.fold hS5
  · rw [if_neg hc] at HR
    go_region_law (first
      | (refine step_app rfl (.tmp 12) (.tmp 22) 53 rfl sWord (by first | exact HSb 0 | exact (HSb 0).drew) 1 (n := nf) rfl rfl rfl (by first | exact HR | exact HR.below (Below.refl _ _).drew) HON.out hbd ?_
         intro A4 c4 w4 hS4 hC4
         obtain ⟨z1, z2, z3, z4⟩ := hS4.rules 3 (g := bf) (t := 53) rfl
         (have z5 : w4.cell? ⟨bf, 0, none⟩ = some (.slice Af nf cf) := by rw [z1]; rfl)
         clear z1))
    all_goals
      go_wp2_with fail
      go_ret
      have hS5 := hS4.set_ 3 (g := bf) (t := 53) rfl 0 (.slice A4 (nf + (at2 - at1)) c4)
      rw [HX.out] at hS5
      have e : u64s xs ++ u64s ((ws.drop at1).take len) = u64s (xs ++ (ws.drop (at_ + 1)).take len) := by
        rw [HE.out]; simp [u64s]
      rw [e] at hS5
      first | refine ⟨A4, c4, rfl, ?_⟩ | refine ⟨rfl, A4, c4, ?_⟩
      rw [HX.out]
      exact Sep.fold hS5
end Go.Proofs.Ytpbafmdebflbpaa

namespace Go.Proofs.Ytpbafmdebflbpaa
open Go.RowKit Go.Maps

theorem parse_none {f at_ : Nat} {ws : List Int} (h : at_ < ws.length) (hf : ws.length ≤ f + at_) (hn : ¬ (unheadOK (ws.getD at_ 0) ∧ hLen (ws.getD at_ 0) < (ws.length : Int) - at_)) : parse f ws at_ = ([], false) := by
  cases f with
  | zero => omega
  | succ f => simp only [parse, if_pos h, if_neg hn]
theorem parse_some {f at_ len : Nat} {ws : List Int} (h : at_ < ws.length) (hf : ws.length ≤ f + at_) (hn : unheadOK (ws.getD at_ 0)) (hl : hLen (ws.getD at_ 0) = (len : Int)) (hlt : at_ + 1 + len ≤ ws.length) :
    ∃ f', ws.length ≤ f' + (at_ + 1 + len) ∧ parse f ws at_ = ((at_, len) :: (parse f' ws (at_ + 1 + len)).1, (parse f' ws (at_ + 1 + len)).2) := by
  cases f with
  | zero => omega
  | succ f =>
    refine ⟨f, by omega, ?_⟩
    simp only [parse, if_pos h]
    rw [if_pos ⟨hn, by rw [hl]; omega⟩, hl]
    simp
theorem parse_end {f : Nat} {ws : List Int} : parse f ws ws.length = ([], true) := by
  cases f with
  | zero => simp [parse]
  | succ f => simp [parse]

set_option maxRecDepth 100000 in
set_option maxHeartbeats 4000000 in
theorem walkCk_any (w : World) (b bm bf ba : Nat) (Af0 : Option Addr) (nf0 cf0 : Nat) (xs0 : List Int) (Aw : Option Addr) (nw cw : Nat) (Ar : Option Addr) (nr cr : Nat) (ws : List Int)
    (hs : (allI (CkItems b bm bf ba 0 (mapD []) Af0 nf0 cf0 xs0 Aw nw cw Ar nr cr)).P w) (hw : Rd w (fun g => ¬ (allI (CkItems b bm bf ba 0 (mapD []) Af0 nf0 cf0 xs0 Aw nw cw Ar nr cr)).fp g) 1 Aw nw (u64s ws)) (hcw : nw ≤ cw) (hcw2 : cw ≤ 9223372036854775807) (hn : nw ≤ 256) (hnf : nf0 ≤ 1000)
    (hws : ∀ x ∈ ws, 0 ≤ x ∧ x ≤ 18446744073709551615) :
    Calls Try.prog 74 #[.slice Aw nw cw, .func (.func 75) #[] #[.pointer (some ⟨bm, 0, none⟩), .pointer (some ⟨bf, 0, none⟩), .pointer (some ⟨ba, 0, none⟩)]] w fun e w' => ∃ (pre : List (Nat × Nat)) (Af : Option Addr) (nf cf : Nat),
      e = .returned (.bool (parse nw ws 0).2) ∧ ((parse nw ws 0).2 = true → pre = (parse nw ws 0).1) ∧ nf ≤ nf0 + 256 ∧
      Sep (allI (CkItems b bm bf ba 0 (mapD []) Af0 nf0 cf0 xs0 Aw nw cw Ar nr cr)).fp w w' [allI (CkItems b bm bf ba pre.length (mapD pre) Af nf cf (xs0 ++ fieldsOf ws pre) Aw nw cw Ar nr cr)] := by
  obtain ⟨F, hF⟩ : ∃ F, (allI (CkItems b bm bf ba 0 (mapD []) Af0 nf0 cf0 xs0 Aw nw cw Ar nr cr)).fp = F := ⟨_, rfl⟩
  have hS0 := Sep.start hs
  rw [hF] at hS0 hw ⊢
  have hw0 : Rd w (fun g => g < w.heap.size ∧ ¬ F g) 1 Aw nw (u64s ws) := hw.more (fun g hg hn => ⟨hg, hn⟩)
  have HWL := hide (show ws.length = nw by have := hw.1; simpa [u64s] using this)
  have HS0 := hide hS0
  clear hF hs hw hS0
  go_enter Try.func74, Try.ntmps74
  go_wp2_with fail
  go_loopw [5] (fun i wr => ∃ (at_ f : Nat) (pre : List (Nat × Nat)) (Af : Option Addr) (nf cf : Nat), at_ ≤ nw ∧ i = .int .i64 at_ ∧ Hid (parse nw ws 0 = (pre ++ (parse f ws at_).1, (parse f ws at_).2)) ∧ nw ≤ f + at_ ∧ pre.length ≤ at_ ∧ nf ≤ nf0 + at_ ∧
    Sep F w wr [allI (CkItems b bm bf ba pre.length (mapD pre) Af nf cf (xs0 ++ fieldsOf ws pre) Aw nw cw Ar nr cr)]) (fun i _ => nw - (intOf i).toNat)
  case atStart => exact ⟨0, nw, [], Af0, nf0, cf0, by omega, rfl, by simp [Hid], by omega, by simp, by omega, by simpa [fieldsOf] using HS0.out⟩
  case round =>
    clear HS0
    obtain ⟨at_, f, pre, Af, nf, cf, hat, rfl, HP, hf, hpl, hnfl, hS⟩ := hrel
    by_cases hlt : at_ < nw
    · have hkl : at_ < ws.length := by rw [HWL.out]; exact hlt
      obtain ⟨ad, hA, _, had, hc⟩ := (hw0.chg hS.bel (fun g hF hD => hD.2 hF)).at_ hlt
      have e0 := hc (.int .u64 ws[at_]) (by simp [u64s, List.getElem?_eq_getElem hkl])
      have hb := hws _ (List.getElem_mem hkl)
      have hgd : ws.getD at_ 0 = ws[at_] := by rw [List.getD_eq_getElem?_getD, List.getElem?_eq_getElem hkl]; rfl
      have HGD := hide hgd
      obtain ⟨x, hx⟩ : ∃ x, ws[at_] = x := ⟨_, rfl⟩
      rw [hx] at e0 hb HGD
      obtain ⟨b1, b2⟩ := hb
      rw [hA]
      have HA := hide hA
      clear hc hx hgd hA
      by_cases hok : unheadOK x
      · obtain ⟨len, hlen⟩ := Int.eq_ofNat_of_zero_le (show 0 ≤ hLen x by unfold hLen; omega)
        have hl4 : len ≤ 4 := by have := hok.1; omega
        have HLEN := hide hlen
        have C := fun w' => unheadP_ok w' x b1 b2 hok
        rw [hlen] at C
        have C1 := hide C
        have HOK := hide hok
        clear C hlen hok
        go_wp2_with fail
        refine (C1.out _).mono ?_
        rintro e w1 ⟨rfl, hb1⟩
        have hS1 := (hS.below hb1).blkAt 23 #[.int .i64 len, .bool (hMark x), .int .i64 (hAge x)] rfl
        by_cases hl : at_ + 1 + len ≤ nw
        · have k1 : decide ((nw : Int) - at_ ≤ len) = false := by simp; omega
          have HC := hide (check1_any _ (fun g => g < w.heap.size ∧ ¬ F g) b bm bf ba pre.length (mapD pre) Af nf cf (xs0 ++ fieldsOf ws pre) Aw nw cw Ar nr cr at_ len (hMark x) (hAge x) ws (hS1.get 0 rfl)
            (fun g hg hD => (hS1.lo 0 rfl g hg).elim hD.2 (fun h => by omega)) (hw0.chg hS1.bel (fun g hF hD => hD.2 hF)) hcw hcw2 hn (by omega) (by omega) hl)
          obtain ⟨f', hf', hps⟩ := parse_some (f := f) (len := len) hkl (by rw [HWL.out]; omega) (by rw [HGD.out]; exact HOK.out) (by rw [HGD.out]; exact HLEN.out) (by rw [HWL.out]; exact hl)
          have HPS := hide (show parse nw ws 0 = ((pre ++ [(at_, len)]) ++ (parse f' ws (at_ + 1 + len)).1, (parse f' ws (at_ + 1 + len)).2) by rw [HP.out, hps]; simp)
          have HF := hide hf'
          clear hS hps hf'
          go_wp2_with fail
          refine HC.out.mono ?_
          rintro e w3 ⟨Af', cf', rfl, hP⟩
          have hS3 := hS1.call 0 rfl hP
          obtain ⟨q1, q2, q3, q4⟩ := hS3.rules 1 (g := w1.heap.size) (t := 23) rfl
          have q5 : w3.cell? ⟨w1.heap.size, 0, none⟩ = some (.int .i64 len) := by rw [q1]; rfl
          have hS4 := hS3.sub (l := [allI (CkItems b bm bf ba (pre.length + 1) ((mapD pre).put (.int .i64 at_) (.lit (.int .i64 len))) Af' (nf + len) cf' (xs0 ++ fieldsOf ws pre ++ (ws.drop (at_ + 1)).take len) Aw nw cw Ar nr cr)]) (by simp)
          clear q1 hS1 hS3 hP HC
          go_wp2_with fail
          go_roundw
          case rel =>
            refine ⟨at_ + 1 + len, f', pre ++ [(at_, len)], Af', nf + len, cf', by omega, by go_num, HPS.out, ?_, by simp; omega, by omega, ?_⟩
            · have h9 := HF.out; rw [HWL.out] at h9; exact h9
            · rw [mapD_snoc, fieldsOf_snoc, ← List.append_assoc, List.length_append, ← HA.out]
              exact hS4
          case measure => simp [intOf]; omega
        · have k1 : decide ((nw : Int) - at_ ≤ len) = true := by simp; omega
          have hpn := parse_none (f := f) hkl (by rw [HWL.out]; omega) (by rw [HGD.out, HLEN.out, HWL.out]; omega)
          have HR := hide (show (parse nw ws 0).2 = false by rw [HP.out, hpn])
          have hS2 := hS1.sub (l := [allI (CkItems b bm bf ba pre.length (mapD pre) Af nf cf (xs0 ++ fieldsOf ws pre) Aw nw cw Ar nr cr)]) (by simp)
          clear hS hpn
          go_wp2_with fail
          go_ret
          exact ⟨pre, Af, nf, cf, by rw [HR.out] <;> rfl, (fun h => by rw [HR.out] at h; cases h), by omega, hS2⟩
      · have C1 := hide (fun w' => unheadP_bad w' x b1 b2 hok)
        have hpn := parse_none (f := f) hkl (by rw [HWL.out]; omega) (by rw [HGD.out]; exact fun h => hok h.1)
        have HR := hide (show (parse nw ws 0).2 = false by rw [HP.out, hpn])
        clear hok hpn
        go_wp2_with fail
        refine (C1.out _).mono ?_
        rintro e w1 ⟨rfl, hb1⟩
        have hS1 := (hS.below hb1)
        go_wp2_with fail
        go_ret
        exact ⟨pre, Af, nf, cf, by rw [HR.out] <;> rfl, (fun h => by rw [HR.out] at h; cases h), by omega, hS1.alloc _⟩
    · obtain rfl : at_ = nw := by omega
      have hpe : parse f ws at_ = ([], true) := by have := parse_end (f := f) (ws := ws); rw [HWL.out] at this; exact this
      have HR := hide (show parse at_ ws 0 = (pre, true) by rw [HP.out, hpe]; simp)
      clear hpe
      go_wp2_with fail
      go_ret
      exact ⟨pre, Af, nf, cf, by rw [HR.out] <;> rfl, (fun _ => by rw [HR.out]), by omega, hS⟩
end Go.Proofs.Ytpbafmdebflbpaa
