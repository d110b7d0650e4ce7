/- A memory with young and old objects: the young ones are cleared up. A memory with young and old objects: minor. -/
import Derived.Test.YtjphckfbbiehdaaSGenPlays25
import Derived.BigQuiet
import Derived.Deep.LoopGhost
set_option linter.unusedSimpArgs false
set_option linter.unusedVariables false
namespace Go.Proofs.Ytjphckfbbiehdaa
open Go.RowKit Go.Maps
theorem gn_op {Be Bm : Nat} {room : Int} {t : GnT} {i : Nat} {p : Po} (hp : t.oj.ps[i]? = some (some p)) : (gnK Be Bm room t)[5 + i]? = some (opI (some p)) := by
  unfold gnK gnR ojL
  rw [show 5 + i = i + 1 + 1 + 1 + 1 + 1 by omega]
  simp [List.getElem?_map, hp]
theorem gn_go {F : Nat → Prop} {W0 w : World} {Be Bm : Nat} {room : Int} {t : GnT} (hK : Sep F W0 w (gnK Be Bm room t)) (ol : t.old.length = t.oj.ps.length) (h8 : t.regs.length = 8) :
    ∃ go, GnF t.Ao go Be t.oj t.old.length t.oc w ∧ (∀ k, (oldI t.Ao t.oc t.old.length t.old).fp k → k = go) ∧ Rd w (fun g => g ≠ go) 2 (some ⟨Bm, 0, none⟩) 8 (vals t.regs) := by
  obtain ⟨k0, -, k2, -, -, -, k6⟩ := gn_cells (pre := []) hK
  have hBm : Bm < w.heap.size := hK.hi 0 rfl Bm rfl
  have hrd : ∀ go, Bm ≠ go → Rd w (fun g => g ≠ go) 2 (some ⟨Bm, 0, none⟩) 8 (vals t.regs) := fun go hne => by
    refine ⟨by rw [vals_length, h8], fun _ => ⟨_, rfl, hne, hBm, fun j u hu => ?_⟩⟩
    obtain ⟨c1, _, _, _⟩ := hK.rules 0 (g := Bm) (t := 113) (cs := mcCells t.regs (.iface 195 (.pointer (some ⟨Be, 0, none⟩)))) rfl
    rw [hraddr0, c1]
    unfold mcCells
    rw [List.getElem?_toArray, List.getElem?_append_left (List.getElem?_eq_some_iff.1 hu).1]
    exact hu
  have hrow : w.ownsRow 0 4 1 (.slice t.Ao t.old.length t.oc) t.old.length (bools t.old) := hK.get 2 rfl
  rcases hrow.2 with ⟨hv, h0⟩ | ⟨g, cap, cur, hv, _⟩
  · injection hv with h1 h2 h3
    have hA : t.Ao = some ⟨Be + Bm + 1, 0, none⟩ ∨ (t.Ao = none ∧ t.old.length = 0) := .inr ⟨h1, h2⟩
    refine ⟨Be + Bm + 1, ⟨hA, ⟨by omega, k6⟩, k0, k2, fun i p hp => ?_⟩, fun k hk => oldI_fp' hA hk, hrd _ (by omega)⟩
    have := (List.getElem?_eq_some_iff.1 hp).1
    omega
  · injection hv with h1 h2 h3
    have hA : t.Ao = some ⟨g, 0, none⟩ ∨ (t.Ao = none ∧ t.old.length = 0) := .inl h1
    have hfp : (oldI t.Ao t.oc t.old.length t.old).fp g := by rw [h1]; exact oldI_fp.2 rfl
    refine ⟨g, ⟨hA, ⟨fun e => hK.other (a := 1) (b := 2) rfl rfl (by omega) Be rfl (e ▸ hfp), k6⟩, k0, k2, fun i p hp => ?_⟩, fun k hk => oldI_fp' hA hk, hrd _ (fun e => hK.other (a := 0) (b := 2) rfl rfl (by omega) Bm rfl (e ▸ hfp))⟩
    obtain ⟨ad, e1, e2, e3, e4, e5⟩ := oj_at (pre := [_, _, _, _]) hK hp
    have hap := hK.other (a := 5 + i) (b := 2) (gn_op hp) rfl (by omega)
    have hB : p.B ≠ g := fun e => hap p.B ⟨blkI p.B 119 #[.slice p.o.A p.o.n p.o.c], by simp, rfl⟩ (e ▸ hfp)
    have had : ad.block ≠ g := fun e => hK.other (a := 4) (b := 2) (x := rowI 170 1 t.oj.As t.oj.ps.length t.oj.c (t.oj.ps.map ptrV)) rfl rfl (by omega) ad.block (by
      have hr : w.ownsRow 0 170 1 (.slice t.oj.As t.oj.ps.length t.oj.c) t.oj.ps.length (t.oj.ps.map ptrV) := hK.get 4 rfl
      rcases hr.2 with ⟨hv, _⟩ | ⟨g', cap', cur', hv, _⟩
      · injection hv with hv; rw [e1] at hv; cases hv
      · injection hv with hv
        rw [e1] at hv
        injection hv with hv
        subst hv
        show (Value.slice t.oj.As t.oj.ps.length t.oj.c).ownBlock = some g'
        rw [e1]
        rfl) (e ▸ hfp)
    have hblt : p.B < w.heap.size := by
      have := hK.hi (5 + i) (gn_op hp) p.B ⟨blkI p.B 119 #[.slice p.o.A p.o.n p.o.c], by simp, rfl⟩
      exact this
    exact ⟨ad, e1, had, e2, e3, hB, hblt, e4, Rd.of_own (show w.ownsRow 0 107 2 (.slice p.o.A p.o.n p.o.c) p.o.n _ from e5) (fun k hk e => hap k ⟨obI p.o, by simp, by show (Value.slice p.o.A p.o.n p.o.c).ownBlock = some k; rw [hk]; rfl⟩ (e ▸ hfp)), oj_len (pre := [_, _, _, _]) hK hp⟩
def Oj.dropG (s : Oj) (i : Nat) : Oj := { s with ps := s.ps.set i none }
theorem gj_drop {F : Nat → Prop} {W w : World} {s : Oj} {pre : List Item} (h : Sep F W w (pre ++ ojL s)) {i ga : Nat} (hi : i < s.ps.length) (hA : s.As = some ⟨ga, 0, none⟩) : Sep F W (w.setCell ⟨ga, i, none⟩ (.pointer none)) (pre ++ ojL (s.dropG i)) := by
  have h2 : Sep F W w ((rowI 170 1 (some ⟨ga, 0, none⟩) s.ps.length s.c (s.ps.map ptrV) :: pre) ++ s.ps.map opI) := by
    rw [← hA]
    exact h.perm (show (pre ++ rowI 170 1 s.As s.ps.length s.c (s.ps.map ptrV) :: s.ps.map opI).Perm _ from List.perm_middle)
  have h3 := h2.store 0 (g := ga) rfl i (.pointer none)
  have h4 : Sep F W (w.setCell ⟨ga, i, none⟩ (.pointer none)) ((rowI 170 1 (some ⟨ga, 0, none⟩) s.ps.length s.c ((s.ps.map ptrV).set i (.pointer none)) :: pre) ++ s.ps.map opI) := h3
  have h5 := h4.focus (j := i) (t := s.ps[i]) (List.getElem?_eq_getElem hi)
  have h6 := h5.step 0 rfl (Chg.refl _ _) (opI none) ⟨fun i hi => by simp at hi, .nil⟩ (fun g hg => by obtain ⟨_, h, _⟩ := hg; simp at h)
  have h7 := Sep.unfocus (l := s.ps) (j := i) h6 hi
  have e : ojL (s.dropG i) = rowI 170 1 (some ⟨ga, 0, none⟩) s.ps.length s.c ((s.ps.map ptrV).set i (.pointer none)) :: (s.ps.set i none).map opI := by
    unfold ojL Oj.dropG
    dsimp only
    rw [List.length_set, List.map_set, hA]
    rfl
  rw [e]
  exact h7.perm List.perm_middle.symm
theorem gj_drop_abs (s : Oj) (i : Nat) : (s.dropG i).abs = s.abs.set i none := by
  unfold Oj.dropG Oj.abs
  dsimp only
  rw [List.map_set]
  rfl
theorem dropG_snoc (objs : List (Option (List Val))) (xs : List Int) (x : Int) : dropF objs (xs ++ [x]) = (dropF objs xs).set x.toNat none := by unfold dropF; rw [List.foldl_append]; rfl
/-! ### Kept, in parts. -/
structure ClO (N : Nat) (fld : Nat → Option (List Val)) (R : Nat → Prop) (old0 h : List Bool) : Prop where
  len : h.length = N
  mono : ∀ i, bt old0 i = true → bt h i = true
  snd : ∀ i, bt h i = true → bt old0 i = true ∨ R i
  cls : ∀ i fs (j : Nat), bt h i = true → bt old0 i = false → fld i = some fs → (true, (j : Int)) ∈ fs → bt h j = true
theorem ClO.refl {N : Nat} {fld : Nat → Option (List Val)} {R : Nat → Prop} {h : List Bool} (hl : h.length = N) : ClO N fld R h h :=
  ⟨hl, fun _ h => h, fun _ h => .inl h, fun i fs j h1 h2 => by rw [h1] at h2; cases h2⟩
theorem ClO.gk {N : Nat} {fld : Nat → Option (List Val)} {R : Nat → Prop} {old0 h s : List Bool} {xs : List Int} (a : ClO N fld R old0 h) (b : Gk N fld R xs h s) : ClO N fld R old0 s :=
  ⟨b.len, fun i hi => b.mono i (a.mono i hi), fun i hi => (b.snd i hi).elim (a.snd i) .inr, fun i fs j h1 h2 hf hj => by
    cases h3 : bt h i with
    | true => exact b.mono j (a.cls i fs j h3 h2 hf hj)
    | false => exact b.cls i fs j h1 h3 hf hj⟩
def RY (a : GnA) (i : Nat) : Prop := ∃ k, Lev a.gsY a.rtY k (i : Int)
theorem gn_gkOk {a : GnA} (ok : GnOk a) (hn : a.objs.length ≤ 600) : GkOk a.objs.length a.fld (RY a) a.old where
  lt i fs h := GnA.fld_lt h
  vf i fs x h hx := ok.vf i fs _ h hx rfl
  f4 i fs h := ok.f4 i fs h
  cl i fs j hR ho h hj := by
    obtain ⟨k, hk⟩ := hR
    refine ⟨k + 1, .step k _ _ hk ?_⟩
    rw [a.gsY_get, show a.od i = false from ho, if_neg (by simp), h]
    exact hj
  n := hn
theorem ClO.fin {a : GnA} (ok : GnOk a) {h : List Bool} (c : ClO a.objs.length a.fld (RY a) a.old h) (h1 : ∀ j : Nat, (true, (j : Int)) ∈ a.rtY → bt h j = true) : h = (List.range a.objs.length).map a.kept := by
  have key : ∀ i, bt h i = a.kept i := fun i => by
    rw [Bool.eq_iff_iff]
    unfold GnA.kept
    rw [Bool.or_eq_true, decide_eq_true_eq, mem_reachR ok.gvY.1 ok.gvY.2]
    constructor
    · exact fun hi => c.snd i hi
    · rintro (hi | ⟨k, hk⟩)
      · exact c.mono i hi
      · have : ∀ k x, Lev a.gsY a.rtY k x → ∀ j : Nat, x = (j : Int) → bt h j = true := by
          intro k x hx
          induction hx with
          | root x hx => rintro j rfl; exact h1 j hx
          | step k x y hx hy ih =>
            rintro j rfl
            have hth : ∀ k x, Lev a.gsY a.rtY k x → ∃ z : Nat, x = (z : Int) := fun k x hx => by
              have h9 : x ∈ reachR a.gsY a.rtY := (mem_reachR ok.gvY.1 ok.gvY.2 x).2 ⟨k, hx⟩
              unfold reachR at h9
              obtain ⟨z, _, e⟩ := List.mem_map.1 h9
              exact ⟨z, e.symm⟩
            obtain ⟨z, rfl⟩ := hth k x hx
            have hz := ih z rfl
            rw [a.gsY_get] at hy
            split at hy
            · cases hy
            · rename_i ho
              cases hf : a.fld z with
              | none => rw [hf] at hy; cases hy
              | some fs =>
                rw [hf] at hy
                exact c.cls z fs j hz (by show a.od z = false; simpa using ho) hf hy
        exact this k _ hk i rfl
  apply List.ext_getElem (by simp [c.len])
  intro i hi1 hi2
  have := key i
  unfold bt at this
  rw [List.getD_eq_getElem?_getD, List.getElem?_eq_getElem hi1, Option.getD_some] at this
  rw [this]
  simp
def GnT.o_ (t : GnT) (h : List Bool) : GnT := { t with old := h }
theorem gnC_o (Bm : Nat) (room : Int) (t : GnT) (h : List Bool) (hl : h.length = t.old.length) : gnC Bm room (t.o_ h) = gnC Bm room t := by unfold gnC GnT.o_; dsimp only; rw [hl]
theorem gnK_o (Be Bm : Nat) (room : Int) (t : GnT) (h : List Bool) (hl : h.length = t.old.length) : gnK Be Bm room (t.o_ h) = [gnM Be Bm t, blkI Be 199 (gnC Bm room t), oldI t.Ao t.oc t.old.length h, gmI t.b t.N t.mks] ++ ojL t.oj := by
  unfold gnK gnR
  rw [gnC_o Bm room t h hl]
  show [gnM Be Bm t, _, oldI t.Ao t.oc h.length h, _] ++ ojL t.oj = _
  rw [hl]
  rfl
def gnKr (Be Bm : Nat) (room : Int) (t : GnT) (r : Nat) (left : Gp → Bool) (cnt : Nat) (h : List Bool) : List Item := [gnM Be Bm t, blkI Be 199 (gnC Bm room t), oldI t.Ao t.oc t.old.length h, gmR t.b r t.N t.mks left cnt] ++ ojL t.oj
end Go.Proofs.Ytjphckfbbiehdaa

namespace Go.Proofs.Ytjphckfbbiehdaa
open Go.RowKit Go.Maps
theorem gmR_left {w : World} {b r N cnt : Nat} {l : List Gp} {left : Gp → Bool} (h : (gmR b r N l left cnt).P w) : w.rangeLeft b r = cnt := by
  obtain ⟨D, lf, h1, _, _⟩ := h
  exact World.ranges.left_eq h1
theorem gz_ok {p : Gp} (h1 : p.1 ≤ 1000) (h2 : p.2 ≤ 1000) : ZOk (gz p) := by
  unfold ZOk gz
  constructor <;> simp [Lit.wf, IntKind.min, IntKind.max, IntKind.signed, IntKind.bits] <;> omega
theorem GnOk.mkz {a : GnA} (ok : GnOk a) (hn : a.objs.length ≤ 600) {p : Gp} (hp : p ∈ a.mks) : ZOk (gz p) := by
  obtain ⟨_, fs, h1, h2⟩ := ok.mo p hp
  have := GnA.fld_lt h1
  have := ok.f4 _ _ h1
  exact gz_ok (by omega) (by omega)
theorem ob_own {w : World} {o : Ob} (h : (obI o).P w) (hn : 0 < o.n) : (∃ g, o.A = some ⟨g, 0, none⟩) ∧ o.n ≤ o.c := by
  have hr : w.ownsRow 0 107 2 (.slice o.A o.n o.c) o.n (vals o.fields) := h
  obtain ⟨A', c', hv, hle⟩ := ownsRow_slice hr
  injection hv with h1 h2 h3
  refine ⟨?_, by omega⟩
  rcases hr.2 with ⟨hv, _⟩ | ⟨g, cap, cur, hv, _⟩
  · injection hv with h4 h5 h6; omega
  · injection hv with hv; exact ⟨g, hv⟩
set_option maxRecDepth 100000 in
theorem run_cut1 (A : Option Addr) (n c k : Nat) (hk : k < n) (hc : n ≤ c) (X : World) : (Instr.slice 25 (.slice A n c) (some (.int .i64 (k : Int))) (some (.int .i64 ((k : Int) + 1))) none).run Try.prog X = .ok (.slice (A.map (·.add (k * 2))) 1 (c - k)) X := by
  have hs : (sizeOf (Try.prog.elem 25)).run Try.prog X = .ok 2 X := by kernel_rfl
  rw [run_slice_lh X 25 A n c (by kernel_rfl) .i64 .i64 (k : Int) ((k : Int) + 1) (by omega) (by omega) (by omega), hs]
  simp only [Result.andThen, sliced]
  have e1 : ((k : Int)).toNat = k := by omega
  have e2 : ((k : Int) + 1).toNat = k + 1 := by omega
  rw [e1, e2, if_neg (by omega), show k + 1 - k = 1 by omega]
theorem rd_cut {w : World} {D : Nat → Prop} {g n k : Nat} {fs : List Val} {q : Val} (h : Rd w D 2 (some ⟨g, 0, none⟩) n (vals fs)) (hk : k < n) (hq : fs[k]? = some q) : Rd w D 2 (some ⟨g, k * 2, none⟩) 1 (vals [q]) := by
  obtain ⟨ad, hA, hd, had, hc⟩ := h.2 (by omega)
  injection hA with hA
  subst hA
  refine ⟨by simp [vals_length], fun _ => ⟨_, rfl, hd, had, fun j u hu => ?_⟩⟩
  obtain ⟨hkl, hq2⟩ := List.getElem?_eq_some_iff.1 hq
  obtain ⟨v0, v1⟩ := vals_at fs k hkl
  rw [hq2] at v0 v1
  have c0 := hc _ _ v0
  have c1 := hc _ _ v1
  rw [hraddr0] at c0 c1
  rcases j with _ | _ | j
  · obtain rfl : Value.bool q.1 = u := by simpa [vals] using hu
    simpa [Addr.add] using c0
  · obtain rfl : Value.int .i64 q.2 = u := by simpa [vals] using hu
    simpa [Addr.add] using c1
  · simp [vals] at hu
set_option maxRecDepth 100000 in
set_option maxHeartbeats 32000000 in
theorem gminor_any {F : Nat → Prop} {W0 w : World} {Be Bm : Nat} {room : Int} {t : GnT} (hK : Sep F W0 w (gnK Be Bm room t)) (ok : GnOk t.a) (hn : t.oj.ps.length ≤ 600) :
    Calls Try.prog 87 #[.pointer (some ⟨Be, 0, none⟩)] w fun e w' => (∃ u, e = .returned u) ∧ ∃ t' : GnT, t'.a = t.a.minor ∧ t'.N ≤ t.N ∧ Sep F W0 w' (gnK Be Bm room t') := by
  have hNl : t.a.objs.length = t.oj.ps.length := List.length_map ..
  have hol : t.old.length = t.oj.ps.length := by have h : t.old.length = t.a.objs.length := ok.ol; omega
  have gok : GkOk t.old.length (ojF t.oj) (RY t.a) t.old := by rw [hol, ← hNl]; exact gn_gkOk ok (by omega)
  obtain ⟨k0, k1, k2, k3, -, k5, k6⟩ := gn_cells (pre := []) hK
  obtain ⟨go, gf, hfp, hrg⟩ := gn_go hK hol ok.r8
  have hBm : Bm < w.heap.size := hK.hi 0 rfl Bm rfl
  have GOK := hide gok
  have KC := hide (fun m => gkeep_any t.Ao go Be t.oj t.old.length t.oc (RY t.a) t.old gok m)
  have C1 := hide (KC.out (Un t.old) w (some ⟨Bm, 0, none⟩) 8 8 t.regs t.old gf (hK.get 2 rfl) hrg (by omega) rfl (fun _ h => h) (fun x hx => by
    obtain ⟨j, fs, e, hf⟩ := ok.vr _ hx rfl
    exact ⟨j, fs, e, hf, 0, .root _ (by rw [← e]; exact List.mem_append_left _ hx)⟩) (Nat.le_refl _))
  have HZ := hide (show ∀ p ∈ t.mks, ZOk (gz p) from fun p hp => ok.mkz (by omega) hp)
  have HK := hide hK
  have HOK := hide ok
  have HN := hide hn
  have HNL := hide hNl
  have HOL := hide hol
  have HFP := hide hfp
  clear hK ok gf hrg gok hNl hol hfp
  go_enter Try.func87, Try.ntmps87
  go_wp2_with fail
  refine C1.out.mono ?_
  rintro e w1 ⟨s1, ⟨u1, rfl⟩, hg1, hS1⟩
  have HK1 := hide (show Sep F W0 w1 ([gnM Be Bm t, blkI Be 199 (gnC Bm room t), oldI t.Ao t.oc t.old.length s1, gmI t.b t.N t.mks] ++ ojL t.oj) from HK.out.call 2 rfl hS1)
  obtain ⟨c1, c2, c3, -⟩ := HK1.out.rules 1 (g := Be) (t := 199) rfl
  have c4 := (c1 3).trans (show _ = some (.map (some t.b)) from rfl)
  have HG1 := hide (ClO.gk (ClO.refl rfl) hg1)
  have HH1 := hide hg1.hit
  clear hS1 hg1 C1 HK k0 k1 k2 k3 k5 k6 hBm c1
  go_wp2_with (first
    | (at_range
       refine wpList_gmBegin rfl (.tmp 16) rfl HK1.out 3 rfl HZ.out rfl ?_
       intro w4 cnt hcn hS4 hsz4
       (have HS4 := hide hS4)
       clear hS4))
  go_frame
  obtain ⟨r, hr⟩ : ∃ r, w1.heap.size = r := ⟨_, rfl⟩
  rw [hr] at HS4 ⊢
  clear hsz4 hr c2 c3 c4
  go_loopg [2] cnt (fun g _ wr => ∃ (h : List Bool) (left : Gp → Bool), Hid (ClO t.old.length (ojF t.oj) (RY t.a) t.old h) ∧ Hid (∀ j : Nat, (j : Int) ∈ tgts t.regs → bt h j = true) ∧ Hid (∀ p ∈ t.mks, left p = false → ∀ j : Nat, ((t.a.fld p.1).getD []).getD p.2 (false, 0) = (true, (j : Int)) → bt h j = true) ∧ Sep F W0 wr (gnKr Be Bm room t r left g h))
  case atStart => exact ⟨s1, _, HG1, HH1, hide (fun p _ h => by cases h), HS4.out⟩
  case round =>
    clear HS4 HG1 HH1
    obtain ⟨h, left, HG, HH, HP, hS⟩ := hrel
    have HM := hide (gmR_left (hS.get 3 rfl))
    have hSO := hS
    go_wp2_with (first
      | (at_next
         refine wpList_gmNext rfl (.tmp 17) rfl hSO 3 HZ.out rfl rfl ?_ ?_))
    · intro hc0 hl0
      have HL0 := hide hl0
      have HK2 := hide (show Sep F W0 wr ([gnM Be Bm t, blkI Be 199 (gnC Bm room t), oldI t.Ao t.oc t.old.length h, gmI t.b t.N t.mks] ++ ojL t.oj) from hS.gmEnd 3 rfl)
      clear hSO hS hl0
      obtain ⟨c1, c2, c3, -⟩ := HK2.out.rules 1 (g := Be) (t := 199) rfl
      have c4 := (c1 0).trans (show _ = some t.oj.v from rfl)
      have CT := oThere_any wr t.oj.As t.oj.ps.length t.oj.c t.oj.ps (by have := HN.out; omega) (HK2.out.rd_ 4 rfl)
      have HFIN := hide (show h = (List.range t.a.objs.length).map t.a.kept from by
        refine ClO.fin HOK.out (h := h) (by rw [HNL.out, ← HOL.out]; exact HG.out) (fun j hj => ?_)
        rcases List.mem_append.1 hj with hj | hj
        · exact HH.out j (tgts_mem.2 hj)
        · obtain ⟨p, hp, hpe⟩ := List.mem_map.1 hj
          exact HP.out p hp (HL0.out p.1 p.2 hp) j hpe)
      have HTL := hide (show ∀ x ∈ thereL t.oj.ps, ∃ z : Nat, x = (z : Int) ∧ z < t.oj.ps.length from fun x hx => there_lt hx)
      have hTle := thereL_len t.oj.ps
      obtain ⟨T, hT⟩ : ∃ T, thereL t.oj.ps = T := ⟨_, rfl⟩
      have HTE := hide hT
      rw [hT] at CT HTL hTle
      unfold Oj.v at c4
      have HC2 := hide CT
      have HHL := hide HG.out.len
      clear CT hT c1 HP HH HG HL0
      go_wp2_with fail
      refine HC2.out.mono ?_
      rintro e w2 ⟨A2, cc2, rfl, hP2⟩
      have hS3 := HK2.out.consNew hP2.below_ _ (hP2.get 0 rfl) (fun g hg => (hP2.lo 0 rfl g hg).resolve_left (fun h => h))
      obtain ⟨m, hm⟩ : ∃ m, T.length = m := ⟨_, rfl⟩
      rw [hm] at hS3 hTle ⊢
      have HM2 := hide hm
      have HS3 := hide hS3
      have hm9 : m ≤ 600 := by have := HN.out; omega
      clear hP2 hm HC2 hS3 c2 c3 c4 HK2
      go_wp2_with fail
      go_loopw [4, 47] (fun _ i wr => ∃ (k : Nat) (s : Oj), k ≤ m ∧ i = .int .i64 k ∧ Hid (s.abs = dropF t.oj.abs (goneB (bt h) (T.take k)) ∧ s.ps.length = t.oj.ps.length ∧ s.As = t.oj.As ∧ s.c = t.oj.c) ∧ Sep F W0 wr (rowI 3 1 A2 m cc2 (ints T) :: ([gnM Be Bm t, blkI Be 199 (gnC Bm room t), oldI t.Ao t.oc t.old.length h, gmI t.b t.N t.mks] ++ ojL s))) (fun _ i _ => m - (intOf i).toNat)
      case atStart => exact ⟨0, t.oj, by omega, rfl, hide ⟨rfl, rfl, rfl, rfl⟩, HS3.out⟩
      case round =>
        clear HS3
        obtain ⟨k, s, hk, rfl, HI, hS⟩ := hrel
        obtain ⟨habs, hps, hAs, hcs⟩ := HI.out
        obtain ⟨c1, c2, c3, -⟩ := hS.rules 2 (g := Be) (t := 199) rfl
        have c4 := (c1 0).trans (show _ = some t.oj.v from rfl)
        have c5 := (c1 2).trans (show _ = some (.slice t.Ao t.old.length t.oc) from rfl)
        have c6 := (c1 3).trans (show _ = some (.map (some t.b)) from rfl)
        unfold Oj.v at c4
        by_cases hlt : k < m
        · have hkl : k < T.length := by rw [HM2.out]; exact hlt
          obtain ⟨ad, hA, _, had, hc⟩ := (hS.rd_ 0 rfl).at_ hlt
          have e0 := hc (.int .i64 T[k]) (by simp [ints, List.getElem?_eq_getElem hkl])
          have hTk := List.take_succ_eq_append_getElem hkl
          obtain ⟨z, hz, hzN⟩ := HTL.out _ (List.getElem_mem hkl)
          rw [hz] at e0 hTk
          have hG := goneB_snoc (bt h) (T.take k) (z : Int)
          rw [← hTk, Int.toNat_natCast] at hG
          obtain ⟨go2, hgo2⟩ := old_some hS (k := 3) rfl (by rw [HOL.out]; omega)
          have hrow := hS.get 3 rfl
          unfold oldI at hrow
          rw [hgo2] at hrow c5
          obtain ⟨f1, f2⟩ := bo_cell hrow z (by rw [HOL.out]; exact hzN)
          obtain ⟨y, hy⟩ : ∃ y, bt h z = y := ⟨_, rfl⟩
          rw [show h.getD z false = y from hy] at f1
          rw [hy] at hG
          have t1 : (z : Int) < (t.old.length : Int) := by rw [HOL.out]; omega
          have t2 : z < t.old.length := by rw [HOL.out]; exact hzN
          subst hA
          cases y with
          | true =>
            rw [if_pos rfl, List.append_nil] at hG
            have HI2 := hide (show s.abs = dropF t.oj.abs (goneB (bt h) (T.take (k + 1))) ∧ s.ps.length = t.oj.ps.length ∧ s.As = t.oj.As ∧ s.c = t.oj.c from by rw [hG]; exact ⟨habs, hps, hAs, hcs⟩)
            have HS := hide hS
            clear hc hTk hz hS hG habs hps hAs hcs HI c1 hrow hy
            go_wp2_with fail
            go_roundw
            case rel => exact ⟨k + 1, s, by omega, by go_num, HI2, HS.out⟩
            case measure => simp [intOf]; omega
          | false =>
            rw [if_neg (by simp)] at hG
            have hil : z < s.ps.length := by rw [hps]; exact hzN
            have hrow4 : wr.ownsRow 0 170 1 (.slice s.As s.ps.length s.c) s.ps.length (s.ps.map ptrV) := hS.get 5 rfl
            obtain ⟨ga, hga⟩ := hown_addr hrow4 (by omega)
            have p2 : ga < wr.heap.size := hS.hi 5 (i := rowI 170 1 s.As s.ps.length s.c (s.ps.map ptrV)) rfl ga (by show (Value.slice s.As s.ps.length s.c).ownBlock = some ga; rw [hga]; rfl)
            have p3 : wr.frozen? ⟨ga, z, none⟩ = false := by
              have ho := hrow4
              rw [hga] at ho
              exact ho.frozenAt _
            have p4 : wr.cell? ⟨ga, z, none⟩ = some (ptrV s.ps[z]) := by
              obtain ⟨ad2, hA2, _, _, hc2⟩ := (Rd.of_own (D := fun _ => True) hrow4 (fun _ _ => trivial)).at_ (k := z) hil
              have h5 := hc2 (ptrV s.ps[z]) (by simp [List.getElem?_eq_getElem hil])
              obtain rfl : (⟨ga, 0, none⟩ : Addr) = ad2 := by rw [hga] at hA2; injection hA2
              rw [hraddr0] at h5
              exact h5
            obtain ⟨pv, hpv⟩ : ∃ v, ptrV s.ps[z] = v := ⟨_, rfl⟩
            rw [hpv] at p4
            have HI2 := hide (show (s.dropG z).abs = dropF t.oj.abs (goneB (bt h) (T.take (k + 1))) ∧ (s.dropG z).ps.length = t.oj.ps.length ∧ (s.dropG z).As = t.oj.As ∧ (s.dropG z).c = t.oj.c from by
              rw [hG, dropG_snoc, ← habs, gj_drop_abs, Int.toNat_natCast]
              exact ⟨rfl, by show (s.ps.set z none).length = _; rw [List.length_set]; exact hps, hAs, hcs⟩)
            have HS4 := hide (show Sep F W0 (wr.setCell ⟨ga, z, none⟩ (.pointer none)) (rowI 3 1 (some ad) m cc2 (ints T) :: ([gnM Be Bm t, blkI Be 199 (gnC Bm room t), oldI t.Ao t.oc t.old.length h, gmI t.b t.N t.mks] ++ ojL (s.dropG z))) from gj_drop (pre := [_, _, _, _, _]) hS hil hga)
            rw [← hAs, hga] at c4
            have hzp : (z : Int) < (t.oj.ps.length : Int) := by omega
            clear hc hTk hz hS hG habs hps hAs hcs HI c1 hrow hy hrow4 hga hpv hil
            go_wp2_with fail
            go_roundw
            case rel => exact ⟨k + 1, s.dropG z, by omega, by go_num, HI2, HS4.out⟩
            case measure => simp [intOf]; omega
        · obtain rfl : k = m := by omega
          rw [List.take_of_length_le (by rw [HM2.out]; exact Nat.le_refl _)] at habs
          have HS := hide hS
          have HE := hide (show (⟨t.regs, s, t.Ao, t.oc, h, t.b, 0, []⟩ : GnT).a = t.a.minor from by
            show (⟨t.regs, s.abs, h, []⟩ : GnA) = _
            unfold GnA.minor dropK
            rw [habs, ← HTE.out, ← thereL_oj, ← HFIN.out]
            have hb : ∀ x ∈ thereL t.oj.abs, bt h x.toNat = t.a.kept x.toNat := fun x hx => by
              obtain ⟨z, fs, rfl, hz⟩ := (mem_thereL _ _).1 hx
              have hz2 : z < t.a.objs.length := (List.getElem?_eq_some_iff.1 hz).1
              rw [HFIN.out, Int.toNat_natCast]
              exact GnA.od_range _ _ _ hz2
            have hg : goneB (bt h) (thereL t.oj.abs) = goneB t.a.kept (thereL t.a.objs) := by
              unfold goneB
              refine List.filter_congr fun x hx => ?_
              rw [hb x hx]
            rw [hg]
            rfl)
          have HKE := hide (fun (X : World) (hX : Sep F W0 X (rowI 3 1 A2 k cc2 (ints T) :: ([gnM Be Bm t, blkI Be 199 (gnC Bm room t), oldI t.Ao t.oc t.old.length h, gmI t.b 0 []] ++ ojL s))) => (show Sep F W0 X (gnK Be Bm room ⟨t.regs, s, t.Ao, t.oc, h, t.b, 0, []⟩) from by
            have e1 : gnC Bm room ⟨t.regs, s, t.Ao, t.oc, h, t.b, 0, []⟩ = gnC Bm room t := by
              unfold gnC Oj.v
              dsimp only
              rw [hps, hAs, hcs, HHL.out]
            unfold gnK gnR
            rw [e1]
            dsimp only
            rw [HHL.out]
            exact hX.sub (List.sublist_cons_self ..)))
          clear hS habs hps hAs hcs HI c1 c4 c5
          go_wp2_with (first
            | (refine wpList_gmClear rfl (.tmp 69) rfl HS.out 4 rfl rfl ?_
               intro w7 hS7
               (have HS7 := hide (HKE.out w7 hS7))
               clear hS7))
          go_end0
          exact ⟨⟨_, rfl⟩, _, HE.out, Nat.zero_le _, HS7.out⟩
    · intro p1 p2 w5 cnt' hp hl hc hS5 hsz hent
      obtain ⟨p, hpe⟩ : ∃ p : Gp, ((p1, p2) : Gp) = p := ⟨_, rfl⟩
      rw [hpe] at hp hl hS5 hent
      have hk5 : Sep F W0 w5 (gnKr Be Bm room t r (fun q => left q && !decide (q = p)) cnt' h) := hS5
      obtain ⟨fs, hf, hmem, hget⟩ := HOK.out.mkv hp
      obtain ⟨po, hpo, hpf⟩ := ojF_at hf
      obtain ⟨q, hq⟩ : ∃ q, ((t.a.fld p.1).getD []).getD p.2 (false, 0) = q := ⟨_, rfl⟩
      rw [hq] at hmem hget
      have HST := hide (show ∀ h' : List Bool, (∀ i, bt h i = true → bt h' i = true) → (∀ j : Nat, (j : Int) ∈ tgts [q] → bt h' j = true) → ∀ p' ∈ t.mks, (left p' && !decide (p' = p)) = false → ∀ j : Nat, ((t.a.fld p'.1).getD []).getD p'.2 (false, 0) = (true, (j : Int)) → bt h' j = true from fun h' hm hq2 p' hp' hl' j hj => by
        by_cases e : p' = p
        · subst e
          refine hq2 j (tgts_mem.2 ?_)
          rw [← hq, hj]
          exact List.mem_singleton.2 rfl
        · refine hm j (HP.out p' hp' ?_ j hj)
          cases hl2 : left p' with
          | false => rfl
          | true => rw [hl2] at hl'; simp [e] at hl')
      have HC := hide hc
      obtain ⟨g5, hgw⟩ : ∃ x, wr.heap.size = x := ⟨_, rfl⟩
      have hg5 : w5.heap.size = g5 := hsz.trans hgw
      have hK6 : Sep F W0 (w5.alloc (.cells #[.int .i64 (p.1 : Int), .int .i64 (p.2 : Int)] 174)) (blkI g5 174 #[.int .i64 (p.1 : Int), .int .i64 (p.2 : Int)] :: gnKr Be Bm room t r (fun q => left q && !decide (q = p)) cnt' h) :=
        (hk5.blkAt 174 #[.int .i64 (p.1 : Int), .int .i64 (p.2 : Int)] hg5).perm List.perm_append_comm
      obtain ⟨W5, hW5⟩ : ∃ x, w5.alloc (.cells #[.int .i64 (p.1 : Int), .int .i64 (p.2 : Int)] 174) = x := ⟨_, rfl⟩
      rw [hW5] at hK6
      obtain ⟨ad, e1, e2, e3, e4, e5⟩ := oj_at (pre := [_, _, _, _, _]) hK6 hpo
      have hpl := (List.getElem?_eq_some_iff.1 hpo).1
      obtain ⟨c1, c2, c3, -⟩ := hK6.rules 2 (g := Be) (t := 199) rfl
      have c4 := (c1 0).trans (show _ = some t.oj.v from rfl)
      obtain ⟨d1, d2, d3, -⟩ := hK6.rules 0 (g := g5) (t := 174) rfl
      have d4 := (d1 0).trans (show _ = some (.int .i64 (p.1 : Int)) from rfl)
      have d5 := (d1 1).trans (show _ = some (.int .i64 (p.2 : Int)) from rfl)
      have hk2 : p.2 < po.o.fields.length := by rw [hpf]; exact (List.getElem?_eq_some_iff.1 hget).1
      have hfl := oj_len (pre := [_, _, _, _, _]) hK6 hpo
      have hf4 : po.o.fields.length ≤ 4 := by rw [hpf]; exact HOK.out.f4 _ _ hf
      obtain ⟨⟨gf, hgf⟩, hcap⟩ := ob_own e5 (by omega)
      unfold gpV gz at hent
      dsimp only at hent
      unfold Oj.v at c4
      rw [e1] at c4
      subst hpe
      dsimp only at *
      have HW5 := hide hW5
      have HG5 := hide hgw
      have hKm : Sep F W0 W5.drew (gnK Be Bm room (t.o_ h)) := by
        rw [gnK_o Be Bm room t h HG.out.len]
        exact (hK6.drew.sub (List.sublist_cons_self ..)).gmEnd 3 rfl
      obtain ⟨go', gf', _, _⟩ := gn_go hKm (by rw [show (t.o_ h).old.length = t.old.length from HG.out.len]; exact HOL.out) HOK.out.r8
      rw [show (t.o_ h).old.length = t.old.length from HG.out.len] at gf'
      have hrd := (gf'.p p1 po hpo).choose_spec.2.2.2.2.2.2.2.1
      have C8 := fun A c (hrd' : Rd W5.drew (fun g => g ≠ go') 2 A 1 (vals [q])) => gkeep_any t.Ao go' Be t.oj t.old.length t.oc (RY t.a) t.old GOK.out (Un h) W5.drew A 1 c [q] h gf' (hK6.drew.get 3 rfl) hrd' (by omega) HG.out.len HG.out.mono (fun x hx => by
        have hx1 : q = (true, x) := (List.mem_singleton.1 hx).symm
        obtain ⟨j, gs', ej, hj⟩ := HOK.out.vf p1 fs (true, x) hf (hx1 ▸ hmem) rfl
        refine ⟨j, gs', ej, hj, 0, .root _ (List.mem_append_right _ (List.mem_map.2 ⟨(p1, p2), hp, ?_⟩))⟩
        show ((t.a.fld p1).getD []).getD p2 (false, 0) = _
        rw [hq, hx1]
        exact Prod.ext rfl ej) (Nat.le_refl _)
      have HK6 := hide hK6
      have hmx : Try.prog.follows .mixedOrders = true := by kernel_rfl
      obtain ⟨⟨oA, on, oc', ofs⟩, hpo2⟩ : ∃ o, po.o = o := ⟨_, rfl⟩
      rw [hpo2] at e4 hfl hf4 hk2 hcap
      dsimp only at e4 hfl hf4 hk2 hcap
      rw [hpo2] at hgf
      dsimp only at hgf
      subst hgf
      have hp2n : p2 < on := by omega
      have C8 := hide (C8 (some ⟨gf, p2 * 2, none⟩) (oc' - p2) (by
        rw [hpo2] at hrd
        exact rd_cut hrd hp2n (by rw [← hpf, hpo2] at hget; exact hget)))
      have hsl := run_cut1 (some ⟨gf, 0, none⟩) on oc' p2 hp2n hcap
      simp only [Option.map_some, hraddr0] at hsl
      have w1' : IntKind.i64.wrap ((p2 : Int) + 1) = (p2 : Int) + 1 := by simp [IntKind.wrap, IntKind.bits, IntKind.signed]; omega
      clear hK6 hk5 hS5 hSO hS hW5 hg5 hgw c1 d1
      go_wp2_with fail
      rw [HW5.out, HG5.out]
      go_still_tail 18, hmx
      go_wp2_with fail
      refine C8.out.mono ?_
      rintro e w8 ⟨s8, ⟨u8, rfl⟩, hg8, hS8⟩
      have HK8 := hide (show Sep F W0 w8 (gnKr Be Bm room t r (fun q => left q && !decide (q = (p1, p2))) cnt' s8) from (HK6.out.drew.call 3 rfl hS8).sub (List.sublist_cons_self ..))
      have HG8 := hide (HG.out.gk hg8)
      have HH8 := hide (show ∀ j : Nat, (j : Int) ∈ tgts t.regs → bt s8 j = true from fun j hj => hg8.mono j (HH.out j hj))
      have HP8 := hide (HST.out s8 hg8.mono hg8.hit)
      clear hg8 hS8 C8 HK6
      go_wp2_with fail
      go_roundg cnt'
      case measure => exact HC.out
      case rel => exact ⟨s8, _, HG8, HH8, HP8, HK8.out⟩
end Go.Proofs.Ytjphckfbbiehdaa
