/- Objects by number, some of them gone: which can be come to. Objects by number: what can be come to from registers. -/
import Derived.Test.YtjphckfbbiehdaaSGenPlays26
set_option linter.unusedSimpArgs false
set_option linter.unusedVariables false
namespace Go.Proofs.Ytjphckfbbiehdaa
open Go.RowKit Go.Maps Go.Shelf
attribute [local go_sem] Oper.semAt_some
/-- What the walk reads, and does not change. -/
structure GrF (go Bs Bw Bo : Nat) (oj : Oj) (N oc : Nat) (w : World) : Prop where
  hs : Bs ≠ go ∧ Bs < w.heap.size
  hw : Bw ≠ go ∧ Bw < w.heap.size
  ho : Bo ≠ go ∧ Bo < w.heap.size
  cs : w.cell? ⟨Bs, 0, none⟩ = some (.slice (some ⟨go, 0, none⟩) N oc)
  cw : w.cell? ⟨Bw, 0, none⟩ = some (.func (.func 180) #[] #[.pointer (some ⟨Bs, 0, none⟩), .pointer (some ⟨Bw, 0, none⟩), .pointer (some ⟨Bo, 0, none⟩)])
  co : w.cell? ⟨Bo, 0, none⟩ = some oj.v
  p : ∀ (i : Nat) (p : Po), oj.ps[i]? = some (some p) → ∃ ad, oj.As = some ad ∧ ad.block ≠ go ∧ ad.block < w.heap.size ∧ w.cell? (ad.add i) = some (.pointer (some ⟨p.B, 0, none⟩)) ∧ p.B ≠ go ∧ p.B < w.heap.size ∧ w.cell? ⟨p.B, 0, none⟩ = some (.slice p.o.A p.o.n p.o.c) ∧ Rd w (fun g => g ≠ go) 2 p.o.A p.o.n (vals p.o.fields) ∧ p.o.fields.length = p.o.n
theorem GrF.chg {go Bs Bw Bo : Nat} {oj : Oj} {N oc : Nat} {w w' : World} {F : Nat → Prop} (a : GrF go Bs Bw Bo oj N oc w) (hc : Chg F w w') (hF : ∀ k, F k → k = go) : GrF go Bs Bw Bo oj N oc w' where
  hs := ⟨a.hs.1, Nat.lt_of_lt_of_le a.hs.2 hc.size⟩
  hw := ⟨a.hw.1, Nat.lt_of_lt_of_le a.hw.2 hc.size⟩
  ho := ⟨a.ho.1, Nat.lt_of_lt_of_le a.ho.2 hc.size⟩
  cs := chg_cell hc hF a.hs.1 a.hs.2 a.cs
  cw := chg_cell hc hF a.hw.1 a.hw.2 a.cw
  co := chg_cell hc hF a.ho.1 a.ho.2 a.co
  p i p hp := by
    obtain ⟨ad, h1, h2, h3, h4, h5, h6, h7, h8, h9⟩ := a.p i p hp
    exact ⟨ad, h1, h2, Nat.lt_of_lt_of_le h3 hc.size, chg_cell hc hF (ad := ad.add i) (by rw [add_blk]; exact h2) (by rw [add_blk]; exact h3) h4, h5, Nat.lt_of_lt_of_le h6 hc.size, chg_cell hc hF (ad := ⟨p.B, 0, none⟩) h5 h6 h7, h8.keep hc.size (fun k hk hd => hc.block k hk (fun h => hd (hF k h))), h9⟩
def GrC (go Bs Bw Bo : Nat) (oj : Oj) (N oc : Nat) (R : Nat → Prop) (old0 : List Bool) (m : Nat) : Prop :=
  ∀ (w : World) (A : Option Addr) (n c : Nat) (vs : List Val) (h : List Bool), GrF go Bs Bw Bo oj N oc w → (oldI (some ⟨go, 0, none⟩) oc N h).P w → Rd w (fun g => g ≠ go) 2 A n (vals vs) → n ≤ 8 → h.length = N → (∀ i, bt old0 i = true → bt h i = true) →
    (∀ x, (true, x) ∈ vs → ∃ (j : Nat) (gs : List Val), x = (j : Int) ∧ ojF oj j = some gs ∧ R j) → Un h ≤ m →
    Calls Try.prog 180 #[.slice A n c, .pointer (some ⟨Bs, 0, none⟩), .pointer (some ⟨Bw, 0, none⟩), .pointer (some ⟨Bo, 0, none⟩)] w (RetS (oldI (some ⟨go, 0, none⟩) oc N) (fun s => Gk N (ojF oj) R (tgts vs) h s) (oldI (some ⟨go, 0, none⟩) oc N h).fp w)
set_option maxRecDepth 100000 in
set_option maxHeartbeats 4000000 in
theorem greach_step (go Bs Bw Bo : Nat) (oj : Oj) (N oc : Nat) (R : Nat → Prop) (old0 : List Bool) (ok : GkOk N (ojF oj) R old0) (m : Nat) (ih : ∀ k, m = k + 1 → GrC go Bs Bw Bo oj N oc R old0 k) : GrC go Bs Bw Bo oj N oc R old0 m := by
  intro w A n c vs h hM hP hRd hn8 hhl h0 hvs hB
  obtain ⟨F, hF⟩ : ∃ F, (oldI (some ⟨go, 0, none⟩) oc N h).fp = F := ⟨_, rfl⟩
  have hFk : ∀ k, F k → k = go := fun k hk => by rw [← hF] at hk; exact oldI_fp.1 hk
  have hS0 := Sep.start hP
  rw [hF] at hS0 ⊢
  have HFK := hide hFk
  have HM := hide hM
  have HB := hide hB
  have HHL := hide hhl
  have HS0 := hide hS0
  have HIH := hide ih
  have HOK := hide ok
  have HH0 := hide h0
  have HVS := hide hvs
  have HRD := hide hRd
  clear hF hFk hP hM hB hhl hS0 ih ok h0 hvs hRd
  refine (callsIn_wide (n := 10)).1 ?_
  refine callsIn_of_wp_calm Try.func180 rfl trivial ?_ rfl
  simp only [Try.ntmps180, List.size_toArray, List.length_cons, List.length_nil, Nat.reduceAdd, Nat.reduceSub, Array.replicate_succ, Array.replicate_zero, List.push_toArray, List.append_toArray, List.nil_append, List.cons_append]
  gi_wp2_with (refine ⟨trivial, ?_⟩; gi_at_call 63; refine (targets_in Fence.wide 9 trivial rfl _ _ _ _).mono ?_; rintro e w2 ⟨rfl, rfl⟩)
  have hS2 := HS0.out.blkAt 25 #[.slice A n c] (g := w.heap.size) rfl
  have hmx : Try.prog.follows .mixedOrders = true := by kernel_rfl
  refine wpIn_tgt (n := 10) rfl (by omega) trivial w.heap.size (by rfl) (by rfl) (oldI (some ⟨go, 0, none⟩) oc N) h (vs := vs) (by omega) (hS2.get 1 rfl) (hS2.other (a := 1) (b := 0) rfl rfl (by omega) _ rfl)
    ((HRD.out.below ((Below.refl _ _).alloc (Nat.le_refl _) _)).more (fun g _ hg hf => hg (oldI_fp.1 hf)))
    (fun pre s => Gk N (ojF oj) R pre h s) (fun _ _ _ => False) (fun s => Tame.row _ _ _ _ _ _ _) (Gk.refl HHL.out) (hS2.get 0 rfl) ?a1 ?assign ?body ?done ?stop
  case assign =>
    intro l x W K hK
    gi_wp2
    exact hK
  case stop =>
    rintro Dd c pre s W hD hpre hF
    exact hF.elim
  case body =>
    rintro lo pre x h2 W hx hpre hlen hI hP2
    obtain ⟨z, gs, rfl, hz, hRz⟩ := HVS.out x (tgts_mem.1 hx)
    have hzN := HOK.out.lt z gs hz
    have hSW := hS2.call 0 rfl hP2
    have GF := HM.out.chg hSW.bel HFK.out
    obtain ⟨f1, f2⟩ := bo_cell (hP2.get 0 rfl) z hzN
    have g0 := GF.co
    have g2 := GF.cs
    have g3 := GF.hs.2
    have g6 := GF.cw
    have g7 := GF.hw.2
    have g8 := GF.ho.2
    have hlN : h2.length = N := hI.len
    have t1 : (0 : Int) ≤ (z : Int) := by omega
    have t2 : (z : Int) < (N : Int) := by omega
    have t3 : decide ((z : Int) < (N : Int)) = true := by simp; omega
    have hbi := hP2.hi 0 rfl go (oldI_fp.2 rfl)
    cases hb2 : bt h2 z with
    | true =>
      rw [show h2.getD z false = true from hb2] at f1
      have HST := hide (hI.seen hb2)
      have HPP := hide (Sep.start (hP2.get 0 rfl))
      clear hx hpre hlen hI hP2 hSW hS2 GF hb2
      gi_wp2
      exact ⟨h2, HST.out, HPP.out⟩
    | false =>
      rw [show h2.getD z false = false from hb2] at f1
      obtain ⟨p, hps, hpf⟩ := ojF_at hz
      obtain ⟨ad, q1, q2, q3, q4, q5, q6, q7, q8, q9⟩ := GF.p z p hps
      obtain ⟨m', hm'⟩ : ∃ m', m = m' + 1 := ⟨m - 1, by
        have k1 := Un_pos (x := z) (h := h2) (by omega) hb2
        have k2 := Un_mono (h := h) (s := h2) (by rw [HHL.out, hlN]) hI.mono
        have := HB.out
        omega⟩
      subst hm'
      have hUn : Un (h2.set z true) ≤ m' := by
        have k1 := Un_set (x := z) (h := h2) (by omega) hb2
        have k2 := Un_mono (h := h) (s := h2) (by rw [HHL.out, hlN]) hI.mono
        have := HB.out
        omega
      have hS3 := (Sep.start (hP2.get 0 rfl)).store 0 (g := go) rfl z (.bool true)
      rw [bools_st] at hS3
      have hS3' : Sep (oldI (some ⟨go, 0, none⟩) oc N h2).fp W (W.setCell ⟨go, z, none⟩ (.bool true)) [oldI (some ⟨go, 0, none⟩) oc N (h2.set z true)] := hS3
      have hS4 := hS3'.drew
      have GF3 := GF.chg hS4.bel (fun k hk => oldI_fp.1 hk)
      obtain ⟨ad', r1, r2, r3, r4, r5, r6, r7, r8, r9⟩ := GF3.p z p hps
      have hold : ∀ i, bt old0 i = true → bt (h2.set z true) i = true := fun i hi => by
        rw [bt_set h2 z i (by omega)]
        split
        · rfl
        · exact hI.mono i (HH0.out i hi)
      have hno : bt old0 z = false := by
        cases ho : bt old0 z with
        | false => rfl
        | true => rw [hI.mono z (HH0.out z ho)] at hb2; cases hb2
      have C := hide (HIH.out m' rfl ((W.setCell ⟨go, z, none⟩ (.bool true)).drew) p.o.A p.o.n p.o.c p.o.fields (h2.set z true) GF3 (hS4.get 0 rfl) r8 (by rw [← r9, hpf]; have := HOK.out.f4 z gs hz; omega) (by rw [List.length_set]; exact hlN) hold (fun x hx => by
        rw [hpf] at hx
        obtain ⟨j, gs', e, hj⟩ := HOK.out.vf z gs x hz hx
        exact ⟨j, gs', e, hj, HOK.out.cl z gs j hRz hno hz (e ▸ hx)⟩) hUn)
      rw [hpf] at C
      have HST := hide (fun (s : List Bool) (b : Gk N (ojF oj) R (tgts gs) (h2.set z true) s) => hI.step hzN hz hRz b)
      have HPP := hide hS4
      have GFV := GF.chg hS3'.bel (fun k hk => oldI_fp.1 hk)
      obtain ⟨ad2, s1, s2, s3, s4, s5, s6, s7, s8, s9⟩ := GFV.p z p hps
      obtain rfl : ad = ad2 := by rw [q1] at s1; injection s1
      have n1 : Bs ≠ go := GF.hs.1
      have n2 : Bw ≠ go := GF.hw.1
      have n3 : Bo ≠ go := GF.ho.1
      have g4 := GFV.co
      have g5 := GFV.cs
      have g9 := GFV.cw
      have hzl : z < oj.ps.length := (List.getElem?_eq_some_iff.1 hps).1
      have t4 : (z : Int) < (oj.ps.length : Int) := by omega
      unfold Oj.v at g0 g4
      rw [q1] at g0 g4
      obtain ⟨⟨oA, on, oc', ofs⟩, hpo⟩ : ∃ o, p.o = o := ⟨_, rfl⟩
      rw [hpo] at C q7 s7
      dsimp only at C q7 s7
      obtain ⟨pB, hpB⟩ : ∃ b, p.B = b := ⟨_, rfl⟩
      rw [hpB] at q4 q5 q6 q7 s4 s5 s6 s7
      obtain ⟨M, hM⟩ : ∃ M, oj.ps.length = M := ⟨_, rfl⟩
      rw [hM] at g0 g4 hzl t4
      obtain ⟨ojc, hojc⟩ : ∃ x, oj.c = x := ⟨_, rfl⟩
      rw [hojc] at g0 g4
      have t5 : decide ((z : Int) < (M : Int)) = true := by simp; omega
      clear hx hpre hlen hI hP2 hS3 hS3' hS4 GF3 GFV GF hSW hS2 hb2 hps hpf q1 q8 q9 r1 r2 r3 r4 r5 r6 r7 r8 r9 s1 s8 s9 hUn hold hno hpo hpB hM hojc ad'
      refine wpIn_opaque fun K9 hK9 => ?_
      gi_wp2
      refine wpIn_region_still_tail (wideF_round lo) 8 hmx (by kernel_rfl) ?_
      simp only [List.take_succ_cons, List.take_zero, List.drop_succ_cons, List.drop_zero]
      repeat still_step
      refine wpStill_nil ?_
      gi_wp2_with (refine ⟨trivial, ?_⟩; gi_at_call 180; (with_reducible refine (CallsIn.inRound lo (callsIn_wide.2 C.out)).mono ?_); rintro e w5 ⟨s5, ⟨v5, rfl⟩, h12, h3⟩; have H12 := hide h12; have H3 := hide h3; clear h12 h3)
      exact ⟨s5, HST.out _ H12.out, HPP.out.call 0 rfl H3.out⟩
  case done =>
    rintro Dd h2 W hD hI hP2 hK
    have hfin := hide (show Gk N (ojF oj) R (tgts vs) h h2 from hI)
    have hCL : Colls w.heap.size W [{ target := .collected Dd, args := #[] }] := ⟨Dd, rfl, by simp at hD; omega, hK, by simp, trivial⟩
    have HSW := hide (hS2.call 0 rfl hP2)
    gi_wp2
    refine collsOff (B := w.heap.size) (u := .returning) (by simp) _ _ hCL ?_
    intro w' c1 c2 c3 c4 c5 c6
    have hSw := (HSW.out.sub (l := [oldI (some ⟨go, 0, none⟩) oc N h2]) (by simp)).closed (B := w.heap.size) (fun i hi => by
      obtain rfl : i = _ := by simpa using hi
      exact Tame.row _ _ _ _ _ _ _) (Nat.le_refl _) c1 c2 c3 c4 c5 c6
    exact ⟨_, results_none rfl _ _ _, h2, ⟨_, rfl⟩, hfin.out, hSw⟩
theorem greach_any (go Bs Bw Bo : Nat) (oj : Oj) (N oc : Nat) (R : Nat → Prop) (old0 : List Bool) (ok : GkOk N (ojF oj) R old0) (m : Nat) : GrC go Bs Bw Bo oj N oc R old0 m := by
  induction m with
  | zero => exact greach_step go Bs Bw Bo oj N oc R old0 ok 0 (fun k h => by omega)
  | succ m ih => exact greach_step go Bs Bw Bo oj N oc R old0 ok (m + 1) (fun k h => by obtain rfl : m = k := (by omega); exact ih)
end Go.Proofs.Ytjphckfbbiehdaa

namespace Go.Proofs.Ytjphckfbbiehdaa
open Go.RowKit Go.Maps
theorem gbInfo : (Try.prog.info? 4).map (fun i => (i.zero, i.size, i.bytes)) = some (some (.bool false), 1, 1) := by kernel_rfl
theorem gbMade (n : Nat) : (madeCells (Value.cells (.bool false)) (n * 1)).toList = bools (List.replicate n false) := by
  rcases Nat.eq_zero_or_pos n with rfl | h
  · simp [madeCells, bools]
  · apply List.ext_getElem (by simp [madeCells, Value.cells, bools])
    intro i h1 h2
    simp [madeCells, Value.cells, bools, Nat.mod_one]
def RG (a : GnA) (i : Nat) : Prop := ∃ k, Lev a.gs a.regs k (i : Int)
theorem bt_rep (n i : Nat) : bt (List.replicate n false) i = false := by
  unfold bt
  rw [List.getD_eq_getElem?_getD, List.getElem?_replicate]
  split <;> rfl
theorem gr_gkOk {a : GnA} (ok : GnOk a) (hn : a.objs.length ≤ 600) (old0 : List Bool) : GkOk a.objs.length a.fld (RG a) old0 where
  lt i fs h := GnA.fld_lt h
  vf i fs x h hx := ok.vf i fs _ h hx rfl
  f4 i fs h := ok.f4 i fs h
  cl i fs j hR _ h hj := by
    obtain ⟨k, hk⟩ := hR
    refine ⟨k + 1, .step k _ _ hk ?_⟩
    rw [a.gs_get, h]
    exact hj
  n := hn
theorem gr_fin {a : GnA} (ok : GnOk a) {s : List Bool} (c : Gk a.objs.length a.fld (RG a) (tgts a.regs) (List.replicate a.objs.length false) s) : s = (List.range a.objs.length).map a.lives := by
  have key : ∀ i, bt s i = a.lives i := fun i => by
    rw [Bool.eq_iff_iff]
    unfold GnA.lives
    rw [decide_eq_true_eq, mem_reachR ok.gv.1 ok.gv.2]
    constructor
    · intro hi
      rcases c.snd i hi with h | h
      · rw [bt_rep] at h; cases h
      · exact h
    · rintro ⟨k, hk⟩
      have hth : ∀ k x, Lev a.gs a.regs k x → ∃ z : Nat, x = (z : Int) := fun k x hx => by
        have h9 : x ∈ reachR a.gs a.regs := (mem_reachR ok.gv.1 ok.gv.2 x).2 ⟨k, hx⟩
        unfold reachR at h9
        obtain ⟨z, _, e⟩ := List.mem_map.1 h9
        exact ⟨z, e.symm⟩
      have : ∀ k x, Lev a.gs a.regs k x → ∀ j : Nat, x = (j : Int) → bt s j = true := by
        intro k x hx
        induction hx with
        | root x hx => rintro j rfl; exact c.hit j (tgts_mem.2 hx)
        | step k x y hx hy ih =>
          rintro j rfl
          obtain ⟨z, rfl⟩ := hth k x hx
          have hz := ih z rfl
          rw [a.gs_get] at hy
          cases hf : a.fld z with
          | none => rw [hf] at hy; cases hy
          | some fs =>
            rw [hf] at hy
            exact c.cls z fs j hz (bt_rep _ _) hf hy
      exact this k _ hk i rfl
  apply List.ext_getElem (by simp [c.len])
  intro i hi1 hi2
  have := key i
  unfold bt at this
  rw [List.getD_eq_getElem?_getD, List.getElem?_eq_getElem hi1, Option.getD_some] at this
  rw [this]
  simp
set_option maxRecDepth 100000 in
set_option maxHeartbeats 8000000 in
theorem greached_any {F : Nat → Prop} {W0 w : World} {Be Bm : Nat} {room : Int} {t : GnT} (hK : Sep F W0 w (gnK Be Bm room t)) (ok : GnOk t.a) (hn : t.oj.ps.length ≤ 600) :
    Calls Try.prog 147 #[t.oj.v, .slice (some ⟨Bm, 0, none⟩) 8 8] w fun e w' => ∃ g, e = .returned (.slice (some ⟨g, 0, none⟩) t.oj.ps.length t.oj.ps.length) ∧ Sep No w w' [rowI 4 1 (some ⟨g, 0, none⟩) t.oj.ps.length t.oj.ps.length (bools ((List.range t.oj.ps.length).map t.a.lives))] := by
  have hNl : t.a.objs.length = t.oj.ps.length := List.length_map ..
  obtain ⟨N, hN⟩ : ∃ n, t.oj.ps.length = n := ⟨_, rfl⟩
  obtain ⟨g0, hg0⟩ : ∃ n, w.heap.size = n := ⟨_, rfl⟩
  have hS0 := (Sep.nil No w).blkAt 101 #[t.oj.v] hg0
  have HS0 := hide hS0
  have HK := hide hK
  have HOK := hide ok
  have HNL := hide hNl
  have HN := hide hN
  have HG0 := hide hg0
  unfold Oj.v at HS0 ⊢
  obtain ⟨x1, x2, x3, -⟩ := HS0.out.rules 0 (g := g0) (t := 101) rfl
  have x5 := (x1 0).trans (show _ = some (.slice t.oj.As t.oj.ps.length t.oj.c) from rfl)
  rw [hN] at hn hNl HS0 ⊢ x5
  clear hS0 hK ok hN x1
  go_enter Try.func147, Try.ntmps147
  go_wp2_with (first
    | (at_make
       refine wpList_make rfl (.tmp 8) (.tmp 8) 63 rfl HS0.out Try.underlying63 gbInfo (by omega) .i64 .i64 N rfl rfl (by omega) ?_
       intro wM hSM hbM
       (rw [gbMade, World.size_alloc, HG0.out] at hSM)
       (have HSM := hide hSM)
       clear hSM hbM))
  obtain ⟨gs, hgs⟩ : ∃ x, wM.heap.size = x := ⟨_, rfl⟩
  have hS4 := (HSM.out.blkAt 63 #[.slice (some ⟨g0 + 1, 0, none⟩) N N] hgs).blkAt 261 #[.func (.func 180) #[] #[.pointer (some ⟨gs, 0, none⟩), .pointer (some ⟨gs + 1, 0, none⟩), .pointer (some ⟨g0, 0, none⟩)]] (g := gs + 1) (by simp [hgs])
  obtain ⟨W4, hW4⟩ : ∃ x, ((wM.alloc (.cells #[.slice (some ⟨g0 + 1, 0, none⟩) N N] 63)).alloc (.cells #[.func (.func 180) #[] #[.pointer (some ⟨gs, 0, none⟩), .pointer (some ⟨gs + 1, 0, none⟩), .pointer (some ⟨g0, 0, none⟩)]] 261)) = x := ⟨_, rfl⟩
  rw [hW4] at hS4
  have hb4 := hS4.below_
  have hK4 := HK.out.below hb4
  obtain ⟨q1, q2, q3, -⟩ := hS4.rules 0 (g := g0) (t := 101) rfl
  obtain ⟨r1, r2, r3, -⟩ := hS4.rules 2 (g := gs) (t := 63) rfl
  obtain ⟨s1, s2, s3, -⟩ := hS4.rules 3 (g := gs + 1) (t := 261) rfl
  have n1 : gs ≠ g0 + 1 := fun e => hS4.other (a := 2) (b := 1) rfl rfl (by omega) gs rfl (by rw [e]; exact (oldI_fp (c := N) (n := N) (h := List.replicate N false)).2 rfl)
  have n2 : gs + 1 ≠ g0 + 1 := fun e => hS4.other (a := 3) (b := 1) rfl rfl (by omega) (gs + 1) rfl (by rw [e]; exact (oldI_fp (c := N) (n := N) (h := List.replicate N false)).2 rfl)
  have GF : GrF (g0 + 1) gs (gs + 1) g0 t.oj N N W4 := by
    refine ⟨⟨n1, r3⟩, ⟨n2, s3⟩, ⟨by omega, q3⟩, (r1 0).trans rfl, (s1 0).trans rfl, (q1 0).trans (by unfold Oj.v; rw [HN.out]; rfl), fun i p hp => ?_⟩
    obtain ⟨ad, e1, e2, e3, e4, e5⟩ := oj_at (pre := [_, _, _, _]) HK.out hp
    obtain ⟨ad', e1', e2', e3', e4', e5'⟩ := oj_at (pre := [_, _, _, _]) hK4 hp
    have hB : p.B < w.heap.size := HK.out.hi (5 + i) (gn_op hp) p.B ⟨blkI p.B 119 #[.slice p.o.A p.o.n p.o.c], by simp, rfl⟩
    rw [HG0.out] at e2 hB
    obtain rfl : ad = ad' := by rw [e1] at e1'; injection e1'
    have hB4 : p.B < W4.heap.size := hK4.hi (5 + i) (gn_op hp) p.B ⟨blkI p.B 119 #[.slice p.o.A p.o.n p.o.c], by simp, rfl⟩
    have hrd : Rd w (fun _ => True) 2 p.o.A p.o.n (vals p.o.fields) := Rd.of_own (show w.ownsRow 0 107 2 (.slice p.o.A p.o.n p.o.c) p.o.n _ from e5) (fun _ _ => trivial)
    exact ⟨ad, e1, by omega, e2', e3', by omega, hB4, e4', (hrd.more (D' := fun g => g ≠ g0 + 1) (fun k hk _ => by rw [HG0.out] at hk; omega)).below hb4, oj_len (pre := [_, _, _, _]) HK.out hp⟩
  have hBm : Bm < w.heap.size := HK.out.hi 0 rfl Bm rfl
  obtain ⟨_, _, _, hrg⟩ := gn_go HK.out (by have h : t.old.length = t.a.objs.length := HOK.out.ol; rw [HN.out, h, hNl]) HOK.out.r8
  have hrg2 : Rd W4 (fun g => g ≠ g0 + 1) 2 (some ⟨Bm, 0, none⟩) 8 (vals t.regs) := (hrg.more (D' := fun g => g ≠ g0 + 1) (fun k hk _ => by rw [HG0.out] at hk; omega)).below hb4
  have gok : GkOk N (ojF t.oj) (RG t.a) (List.replicate N false) := by rw [← hNl]; exact gr_gkOk HOK.out (by omega) _
  have C := hide (greach_any (g0 + 1) gs (gs + 1) g0 t.oj N N (RG t.a) (List.replicate N false) gok (Un (List.replicate N false)) W4 (some ⟨Bm, 0, none⟩) 8 8 t.regs (List.replicate N false) GF (hS4.get 1 rfl) hrg2 (by omega) (by simp) (fun _ h => h) (fun x hx => by
    obtain ⟨j, fs, e, hf⟩ := HOK.out.vr _ hx rfl
    exact ⟨j, fs, e, hf, 0, .root _ (by rw [← e]; exact hx)⟩) (Nat.le_refl _))
  have HS4 := hide hS4
  rw [hgs, hW4]
  clear hS4 hb4 hK4 q1 q2 q3 r1 r2 r3 s1 s2 s3 GF hrg hrg2 gok hBm hgs hW4
  refine C.out.mono ?_
  rintro e w5 ⟨s5, ⟨u5, rfl⟩, hg5, hS5⟩
  have hS6 := HS4.out.call 1 rfl hS5
  obtain ⟨r1, r2, r3, -⟩ := hS6.rules 2 (g := gs) (t := 63) rfl
  have r4 := (r1 0).trans (show _ = some (.slice (some ⟨g0 + 1, 0, none⟩) N N) from rfl)
  have hfin : s5 = (List.range N).map t.a.lives := by
    have := gr_fin HOK.out (s := s5) (by rw [hNl]; exact hg5)
    rw [this, hNl]
  have HF := hide (show Sep No w w5 [rowI 4 1 (some ⟨g0 + 1, 0, none⟩) N N (bools ((List.range N).map t.a.lives))] from by
    rw [← hfin]
    exact hS6.sub (l := [oldI (some ⟨g0 + 1, 0, none⟩) N N s5]) (by simp))
  clear hS6 hS5 hg5 C HS4 r1 hfin
  go_wp2_with fail
  go_ret
  exact ⟨g0 + 1, rfl, HF.out⟩
end Go.Proofs.Ytjphckfbbiehdaa
