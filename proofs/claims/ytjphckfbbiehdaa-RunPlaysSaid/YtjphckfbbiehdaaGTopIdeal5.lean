/- The reference of a memory with so many words, plain: its step; it tells what the program's places tell. A memory with so many words: a new object. A memory with so many words as a machine's memory. -/
import Derived.Test.YtjphckfbbiehdaaGTopIdeal4
import Derived.Test.YtjphckfbbiehdaaGIdealPlays12
import Derived.Test.YtjphckfbbiehdaaGTriPlays3
set_option linter.unusedSimpArgs false
set_option linter.unusedVariables false
namespace Go.Proofs.Ytjphckfbbiehdaa

structure RrA where
  σ : MSt
  ws : List Int
  times : Int
def RrA.sz (a : RrA) (x : Int) : Int := 1 + ((obA a.σ.objs x).length : Int)
def RrA.rc (a : RrA) : List Int := reachR a.σ.objs a.σ.regs
def RrA.clear (c : Int) (a : RrA) : RrA :=
  if c = 1 then ⟨a.σ, rdrop a.rc a.ws, a.times + 1⟩
  else ⟨a.σ, rstands a.sz (if c = 2 then order a.σ.objs a.σ.regs else rrow a.rc [] a.ws) 0 (List.replicate a.ws.length (-1)), a.times + 1⟩
def RrA.room (c : Int) (a : RrA) (n : Int) : Int := rroom (decide (c = 1)) n a.ws 0 0
def RrA.new_ (d : DoV) (a : RrA) (p : Int) : OutV × RrA := ((stepM d a.σ).1, ⟨(stepM d a.σ).2, rstand a.ws (a.σ.objs.length : Int) p.toNat (1 + d.n.toNat), a.times⟩)
def rrStep (c : Int) (d : DoV) (a : RrA) : OutV × RrA :=
  if d.k = 8 then (⟨0, false, 0⟩, a.clear c)
  else if wrongM d ≠ 0 then (⟨wrongM d, false, 0⟩, a)
  else if d.k = 1 then
    if 0 ≤ a.room c (1 + d.n) then a.new_ d (a.room c (1 + d.n))
    else if 0 ≤ (a.clear c).room c (1 + d.n) then (a.clear c).new_ d ((a.clear c).room c (1 + d.n))
    else (⟨6, false, 0⟩, a.clear c)
  else ((stepM d a.σ).1, ⟨(stepM d a.σ).2, a.ws, a.times⟩)

structure RrSim (W : Nat) (a : RnA) (r : RrA) : Prop where
  ok : RnOk W a
  mok : MOk r.σ
  sim : RnSim a r.σ
  wok : WOk W a.at_ a.sz (thereL a.objs) r.ws
  times : a.times = r.times

theorem RnA.there_pos {a : RnA} {x : Int} (h : x ∈ thereL a.objs) : 0 ≤ x := by
  obtain ⟨i, fs, rfl, _⟩ := RnA.there.1 h; omega
theorem RrSim.lad {W : Nat} {a : RnA} {r : RrA} (h : RrSim W a r) : r.ws = ladW W a.at_ a.sz 0 a.row :=
  h.wok.lad (fun x _ => a.sz_pos x) h.ok.lad fun _ => a.row_perm.mem_iff
theorem RrSim.room {W : Nat} {a : RnA} {r : RrA} (h : RrSim W a r) (c : Int) {n : Int} (hn : 0 < n) : r.room c n = a.room c W n := by
  unfold RrA.room RnA.room
  rw [h.lad]
  exact rroom_lad hn (fun x _ => a.sz_pos x) (fun x hx => RnA.there_pos (a.row_perm.mem_iff.1 hx)) h.ok.lad
theorem RrSim.lives {W : Nat} {a : RnA} {r : RrA} (h : RrSim W a r) : order r.σ.objs r.σ.regs = a.lives := (rn_graph h.sim h.ok).1
theorem RrSim.rc {W : Nat} {a : RnA} {r : RrA} (h : RrSim W a r) (x : Int) : x ∈ r.rc ↔ x ∈ a.lives := by
  rw [← h.lives]
  unfold RrA.rc
  rw [mem_order h.mok.vo h.mok.vr, mem_reachR h.mok.vo h.mok.vr]
theorem RrSim.sz {W : Nat} {a : RnA} {r : RrA} (h : RrSim W a r) {x : Int} (hx : x ∈ thereL a.objs) : r.sz x = a.sz x := by
  obtain ⟨i, fs, rfl, hf⟩ := RnA.there.1 hx
  unfold RrA.sz RnA.sz
  rw [h.sim.ob hf, Int.toNat_natCast, hf]
  rfl
theorem rstands_congr {s t : Int → Int} : ∀ {l : List Int} {b : Nat} {ws : List Int}, (∀ x ∈ l, s x = t x) → rstands s l b ws = rstands t l b ws := by
  intro l
  induction l with
  | nil => exact fun _ => rfl
  | cons x l ih =>
    intro b ws h
    unfold rstands
    rw [h x (List.mem_cons_self ..)]
    exact ih fun y hy => h y (List.mem_cons_of_mem _ hy)
theorem RnA.clear_sz (a : RnA) (c : Int) : (a.clear c).sz = a.drop.sz := by
  funext x
  unfold RnA.sz RnA.fld
  rw [(a.clear_objs c).1]
theorem RnA.clear_times (a : RnA) (c : Int) : (a.clear c).times = a.times + 1 := by
  unfold RnA.clear
  split
  · rfl
  · split <;> rfl
/-- All is cleared up. -/
theorem RrSim.clear {W : Nat} {a : RnA} {r : RrA} (h : RrSim W a r) {c : Int} (hc : c = 1 ∨ c = 2 ∨ c = 3) : RrSim W (a.clear c) (r.clear c) := by
  have hcl := h.sim.clear (W := W) c
  have hm : ∀ x, x ∈ thereL a.drop.objs ↔ x ∈ thereL a.objs ∧ x ∈ r.rc := fun x => by
    rw [h.ok.drop_there, h.rc]
    exact ⟨fun h1 => ⟨h.ok.lives_there x h1, h1⟩, fun h1 => h1.2⟩
  have hσ : (r.clear c).σ = r.σ := by unfold RrA.clear; split <;> rfl
  have ht : (r.clear c).times = r.times + 1 := by unfold RrA.clear; split <;> rfl
  refine ⟨h.ok.clear c, by rw [hσ]; exact h.mok, by rw [hσ]; exact hcl, ?_, by rw [a.clear_times, ht, h.times]⟩
  rw [a.clear_sz, (a.clear_objs c).1]
  by_cases h1 : c = 1
  · have e1 : (a.clear c) = a.drop := by unfold RnA.clear; rw [if_neg (by omega), if_neg (by omega)]
    have e2 : (r.clear c).ws = rdrop r.rc r.ws := by unfold RrA.clear; rw [if_pos h1]
    rw [e1, e2]
    exact h.wok.drop (fun x hx => RnA.there_pos hx) hm (fun x hx => h.ok.drop_sz ((h.ok.drop_there x).1 hx)) h.ok.ap.ap
  · obtain ⟨l, hl, hrow, hats⟩ : ∃ l : List Int, l.Perm (thereL a.drop.objs) ∧ (if c = 2 then order r.σ.objs r.σ.regs else rrow r.rc [] r.ws) = l ∧ (a.clear c).ats = downG a.drop.sz l 0 a.drop.ats := by
      rcases hc with rfl | rfl | rfl
      · omega
      · refine ⟨a.lives, h.ok.drop_perm.symm, by rw [if_pos rfl]; exact h.lives, ?_⟩
        unfold RnA.clear
        rw [if_pos rfl]
        rfl
      · refine ⟨a.drop.row, a.drop.row_perm, ?_, ?_⟩
        · rw [if_neg (by omega), h.lad, rrow_lad (fun x _ => a.sz_pos x) (fun x hx => RnA.there_pos (a.row_perm.mem_iff.1 hx)) (a.row_perm.nodup_iff.2 (thereL_nodup _)) (fun x _ hx => by cases hx), List.nil_append]
          refine h.ok.drop.row_uniq ?_ ?_
          · refine (List.perm_ext_iff_of_nodup ((a.row_perm.nodup_iff.2 (thereL_nodup _)).filter _) (thereL_nodup _)).2 fun x => ?_
            rw [List.mem_filter, hm, a.row_perm.mem_iff]
            simp
          · exact a.row_sorted.filter _
        · unfold RnA.clear
          rw [if_neg (by omega), if_pos rfl]
          rfl
    have e2 : (r.clear c).ws = rstands r.sz l 0 (List.replicate r.ws.length (-1)) := by unfold RrA.clear; rw [if_neg h1, hrow]
    obtain ⟨d1, d2⟩ := h.ok.drop.down hl
    have hat : (a.clear c).at_ = fun x => (downG a.drop.sz l 0 a.drop.ats).getD x.toNat 0 := by
      funext x
      unfold RnA.at_
      rw [hats]
    rw [e2, hat, h.wok.len, rstands_congr (t := a.drop.sz) (fun x hx => by
      have hx2 := hl.mem_iff.1 hx
      rw [h.sz ((hm x).1 hx2).1, h.ok.drop_sz ((h.ok.drop_there x).1 hx2)])]
    have h5 := (wok_none W (fun x => (downG a.drop.sz l 0 a.drop.ats).getD x.toNat 0) a.drop.sz).stands (m := l) (b := 0) (fun x _ => a.drop.sz_pos x) d2 (by
      have := h.ok.drop.sum
      rw [sum_perm a.drop.sz hl]
      omega) (fun x hx => by cases hx)
    rw [List.nil_append] at h5
    exact h5.mem fun x => hl.symm.mem_iff
theorem RnA.push_at {W : Int} {a : RnA} (ok : RnOk W a) (n : Nat) (p : Int) {x : Int} (hx : x ∈ thereL a.objs) : (a.push n p).at_ x = a.at_ x ∧ (a.push n p).sz x = a.sz x := by
  obtain ⟨i, fs, rfl, hf⟩ := RnA.there.1 hx
  have h1 := RnA.fld_lt hf
  refine ⟨?_, ?_⟩
  · show (a.ats ++ [p]).getD _ 0 = a.ats.getD _ 0
    rw [Int.toNat_natCast, List.getD_eq_getElem?_getD, List.getD_eq_getElem?_getD, List.getElem?_append_left (by rw [ok.cl]; exact h1)]
  · unfold RnA.sz
    rw [Int.toNat_natCast, (a.push_fld n p i fs).2 (.inl hf), hf]
theorem RnA.push_new {W : Int} {a : RnA} (ok : RnOk W a) (n : Nat) (p : Int) : (a.push n p).at_ (a.objs.length : Int) = p ∧ (a.push n p).sz (a.objs.length : Int) = 1 + n := by
  refine ⟨?_, ?_⟩
  · show (a.ats ++ [p]).getD _ 0 = p
    rw [Int.toNat_natCast, List.getD_eq_getElem?_getD, ← ok.cl]
    simp
  · unfold RnA.sz
    rw [Int.toNat_natCast, (a.push_fld n p _ _).2 (.inr ⟨rfl, rfl⟩)]
    simp [zeroVs]
theorem RnA.push_there (a : RnA) (n : Nat) (p : Int) (x : Int) : x ∈ thereL (a.push n p).objs ↔ x = (a.objs.length : Int) ∨ x ∈ thereL a.objs := by
  rw [RnA.there, RnA.there]
  constructor
  · rintro ⟨i, fs, rfl, h⟩
    rcases (a.push_fld n p i fs).1 h with h1 | ⟨rfl, _⟩
    · exact .inr ⟨i, fs, rfl, h1⟩
    · exact .inl rfl
  · rintro (rfl | ⟨i, fs, rfl, h⟩)
    · exact ⟨_, _, rfl, (a.push_fld n p _ _).2 (.inr ⟨rfl, rfl⟩)⟩
    · exact ⟨i, fs, rfl, (a.push_fld n p i fs).2 (.inl h)⟩
/-- One more, where there is room. -/
theorem RrSim.push {W : Nat} {a : RnA} {r : RrA} (h : RrSim W a r) {c : Int} {d : DoV} (hd : d.k = 1) (hw : wrongM d = 0) (hp : 0 ≤ a.room c W (1 + d.n)) :
    (r.new_ d (r.room c (1 + d.n))).1 = ⟨0, false, 0⟩ ∧ RrSim W ((a.push d.n.toNat (a.room c W (1 + d.n))).sr d.to.toNat (true, (a.objs.length : Int))) (r.new_ d (r.room c (1 + d.n))).2 := by
  have h4 := wrongM_n hw hd
  obtain ⟨n, hn⟩ := int_nat h4.1
  rw [h.room c (by omega)]
  rw [hn] at hp ⊢
  rw [Int.toNat_natCast]
  have hst : stepM d r.σ = (⟨0, false, 0⟩, ⟨r.σ.regs.set d.to.toNat (true, r.σ.objs.length), r.σ.objs ++ [zeroVs n]⟩) := by
    unfold stepM stepK
    rw [if_neg (by omega), if_pos hd, hn, Int.toNat_natCast]
  obtain ⟨p, hpe⟩ := int_nat hp
  have hpush := h.ok.push (n := n) (c := c) (by omega) hp
  obtain ⟨r1, r2, r3⟩ := roomG_ok (sw := decide (c = 1)) (n := 1 + (n : Int)) (by omega) (fun x _ => a.sz_pos x) h.ok.lad (Int.le_refl _) hp
  have hroom : roomG (decide (c = 1)) W (1 + n) a.at_ a.sz a.row 0 = (p : Int) := hpe
  rw [hroom] at r1 r2 r3
  unfold RrA.new_
  rw [hst]
  rw [hpe] at hpush ⊢
  refine ⟨rfl, ?_⟩
  dsimp only
  have hmok := (h.mok.step d).1
  rw [hst] at hmok
  refine ⟨hpush.1.sr _ hpush.2, hmok, ?_, ?_, h.times⟩
  · have := (h.sim.push n (p : Int)).sr d.to.toNat (true, (a.objs.length : Int))
    rw [h.sim.n] at this ⊢
    exact this
  · rw [hn, Int.toNat_natCast, Int.toNat_natCast, ← h.sim.n]
    exact h.wok.stand (g := (a.push n p).at_) (t := (a.push n p).sz) (m := thereL (a.push n p).objs) (x := (a.objs.length : Int)) (p := p) (n := 1 + n) (by omega) (RnA.push_new h.ok n p).1 (by rw [(RnA.push_new h.ok n p).2]; omega)
      (fun y hy => by
        rcases r3 y (a.row_perm.mem_iff.2 hy) with h1 | h1
        · exact .inl (by omega)
        · exact .inr h1)
      (fun y => a.push_there n p y) (fun y hy => RnA.push_at h.ok n p hy)
/-- What is no new object leaves places as they are. -/
theorem rnDo_place {W : Int} {a : RnA} (ok : RnOk W a) (c : Int) {d : DoV} (hd : d.k ≠ 1) : (rnDo c W d a).1.code ≠ 6 ∧ (rnDo c W d a).2.ats = a.ats ∧ (rnDo c W d a).2.times = a.times ∧ ∀ x, (x ∈ thereL (rnDo c W d a).2.objs ↔ x ∈ thereL a.objs) ∧ (x ∈ thereL a.objs → (rnDo c W d a).2.sz x = a.sz x) := by
  have hid : ∀ x, (x ∈ thereL a.objs ↔ x ∈ thereL a.objs) ∧ (x ∈ thereL a.objs → a.sz x = a.sz x) := fun x => ⟨Iff.rfl, fun _ => rfl⟩
  have her : ∀ r at_, rnErr a (rgA a.regs r) at_ ≠ 6 := fun r at_ => by
    unfold rnErr
    split
    · decide
    · split <;> decide
  unfold rnDo
  by_cases hw : wrongM d ≠ 0
  · rw [if_pos hw]
    refine ⟨?_, rfl, rfl, hid⟩
    show wrongM d ≠ 6
    unfold wrongM
    split
    · decide
    · split
      · decide
      · split
        · decide
        · split <;> decide
  rw [if_neg hw]
  unfold rnKst
  rw [if_neg hd]
  by_cases h2 : d.k = 2
  · rw [if_pos h2]; exact ⟨ne06, rfl, rfl, hid⟩
  rw [if_neg h2]
  by_cases h3 : d.k = 3
  · rw [if_pos h3]; exact ⟨ne06, rfl, rfl, hid⟩
  rw [if_neg h3]
  by_cases h5 : d.k = 4
  · rw [if_pos h5]
    by_cases hz : rnErr a (rgA a.regs d.to) d.at_ ≠ 0
    · rw [if_pos hz]; exact ⟨her _ _, rfl, rfl, hid⟩
    · rw [if_neg hz]
      obtain ⟨i, fs, e, hf⟩ := ok.at_field (r := d.to) (at_ := d.at_) (by omega)
      rw [e]
      dsimp only
      rw [Int.toNat_natCast]
      refine ⟨ne06, rfl, rfl, fun x => ⟨?_, fun hx => ?_⟩⟩
      · rw [RnA.there, RnA.there]
        constructor
        · rintro ⟨j, gs, rfl, hg⟩
          rcases (rnPut_fld _ hf j gs).1 hg with ⟨rfl, rfl⟩ | ⟨_, h7⟩
          · exact ⟨j, fs, rfl, hf⟩
          · exact ⟨j, gs, rfl, h7⟩
        · rintro ⟨j, gs, rfl, hg⟩
          by_cases ej : j = i
          · exact ⟨j, _, rfl, (rnPut_fld _ hf j _).2 (.inl ⟨ej, rfl⟩)⟩
          · exact ⟨j, gs, rfl, (rnPut_fld _ hf j gs).2 (.inr ⟨ej, hg⟩)⟩
      · obtain ⟨j, gs, rfl, hg⟩ := RnA.there.1 hx
        unfold RnA.sz
        rw [Int.toNat_natCast, hg]
        by_cases ej : j = i
        · subst ej
          rw [hf] at hg
          injection hg with hg
          subst hg
          rw [(rnPut_fld _ hf j _).2 (.inl ⟨rfl, rfl⟩)]
          simp
        · rw [(rnPut_fld _ hf j gs).2 (.inr ⟨ej, hg⟩)]
  rw [if_neg h5]
  by_cases h6 : d.k = 5
  · rw [if_pos h6]
    by_cases hz : rnErr a (rgA a.regs d.fr) d.at_ ≠ 0
    · rw [if_pos hz]; exact ⟨her _ _, rfl, rfl, hid⟩
    · rw [if_neg hz]; exact ⟨ne06, rfl, rfl, hid⟩
  rw [if_neg h6]
  by_cases h7 : d.k = 6
  · rw [if_pos h7]; exact ⟨ne06, rfl, rfl, hid⟩
  · rw [if_neg h7]; exact ⟨ne06, rfl, rfl, hid⟩
/-- A deed: both tell the same. -/
theorem RrSim.step {W : Nat} {a : RnA} {r : RrA} (h : RrSim W a r) {c : Int} (hc : c = 1 ∨ c = 2 ∨ c = 3) (d : DoV) : (rnStep c W d a).1 = (rrStep c d r).1 ∧ RrSim W (rnStep c W d a).2 (rrStep c d r).2 := by
  unfold rnStep rrStep
  by_cases h8 : d.k = 8
  · rw [if_pos h8, if_pos h8]; exact ⟨rfl, h.clear hc⟩
  rw [if_neg h8, if_neg h8]
  by_cases hw : wrongM d ≠ 0
  · unfold rnDo
    rw [if_pos hw, if_pos hw]; exact ⟨rfl, h⟩
  by_cases h1 : d.k = 1
  · have hw0 : wrongM d = 0 := by omega
    have h4 := wrongM_n hw0 h1
    unfold rnDo
    rw [if_neg hw, if_neg hw, if_pos h1]
    unfold rnKst
    rw [if_pos h1]
    have hcl := h.clear hc
    have e1 := h.room c (n := 1 + d.n) (by omega)
    have e2 := hcl.room c (n := 1 + d.n) (by omega)
    have hn : ((d.n.toNat : Nat) : Int) = d.n := by omega
    by_cases c1 : 0 ≤ a.room c W (1 + d.n)
    · have e : rnNew c W a d.n.toNat = (a.push d.n.toNat (a.room c W (1 + d.n)), (a.objs.length : Int), 0) := by unfold rnNew; rw [hn, if_pos c1]
      rw [e, if_neg (by simp), if_pos (by rw [e1]; exact c1)]
      obtain ⟨p1, p2⟩ := h.push h1 hw0 c1
      exact ⟨p1.symm, p2⟩
    · rw [if_neg (show ¬ 0 ≤ r.room c (1 + d.n) by rw [e1]; exact c1)]
      by_cases c2 : 0 ≤ (a.clear c).room c W (1 + d.n)
      · have e : rnNew c W a d.n.toNat = ((a.clear c).push d.n.toNat ((a.clear c).room c W (1 + d.n)), (a.objs.length : Int), 0) := by unfold rnNew; rw [hn, if_neg c1, if_pos c2]
        rw [e, if_neg (by simp), if_pos (by rw [e2]; exact c2)]
        obtain ⟨p1, p2⟩ := hcl.push h1 hw0 c2
        rw [a.clear_len] at p2
        exact ⟨p1.symm, p2⟩
      · have e : rnNew c W a d.n.toNat = (a.clear c, 0, 6) := by unfold rnNew; rw [hn, if_neg c1, if_neg c2]
        rw [e, if_pos (by simp), if_neg (by rw [e2]; exact c2)]
        exact ⟨rfl, hcl⟩
  · rw [if_neg hw, if_neg h1]
    obtain ⟨k1, k2⟩ := rnDo_sim c h.sim h.ok d
    obtain ⟨q1, q2, q3, q4⟩ := rnDo_place h.ok c h1
    rcases k2 with ⟨k3, _⟩ | ⟨_, k3, k4⟩
    · exact absurd k3 q1
    · refine ⟨k3, k1, (h.mok.step d).1, k4, ?_, q3.trans h.times⟩
      have hat : (rnDo c W d a).2.at_ = a.at_ := by funext x; unfold RnA.at_; rw [q2]
      refine WOk.congr (f := a.at_) (s := a.sz) (h.wok.mem fun x => (q4 x).1) fun y hy => ⟨by rw [hat], (q4 y).2 ((q4 y).1.1 hy)⟩
def rrStp (c : Int) (p : List OutV × RrA) (d : DoV) : List OutV × RrA := (p.1 ++ [(rrStep c d p.2).1], (rrStep c d p.2).2)
def rrRun (c : Int) (ds : List DoV) (a : RrA) : List OutV × RrA := ds.foldl (rrStp c) ([], a)
def rr0 (W : Nat) : RrA := ⟨⟨List.replicate 8 (false, 0), []⟩, List.replicate W (-1), 0⟩
theorem rrRun_snoc (c : Int) (ds : List DoV) (d : DoV) (a : RrA) : rrRun c (ds ++ [d]) a = ((rrRun c ds a).1 ++ [(rrStep c d (rrRun c ds a).2).1], (rrStep c d (rrRun c ds a).2).2) := by
  unfold rrRun; rw [List.foldl_append]; rfl
/-- Scripts: both tell the same. -/
theorem rr_run {c : Int} (hc : c = 1 ∨ c = 2 ∨ c = 3) (W : Nat) (ds : List DoV) : (rnRun c W ds rn0).1 = (rrRun c ds (rr0 W)).1 ∧ RrSim W (rnRun c W ds rn0).2 (rrRun c ds (rr0 W)).2 := by
  have key : ∀ l : List DoV, (rnRun c W l.reverse rn0).1 = (rrRun c l.reverse (rr0 W)).1 ∧ RrSim W (rnRun c W l.reverse rn0).2 (rrRun c l.reverse (rr0 W)).2 := by
    intro l
    induction l with
    | nil =>
      refine ⟨rfl, rn0_ok (by omega), ⟨rfl, ?_, ?_, ?_⟩, ⟨rfl, rfl, fun i fs h => by cases h⟩, wok_none W _ _, rfl⟩
      · intro v hv h1
        obtain ⟨_, rfl⟩ := List.mem_replicate.1 (show v ∈ List.replicate 8 (false, 0) from hv)
        cases h1
      · intro fs hfs; cases hfs
      · intro fs hfs; cases hfs
    | cons d l ih =>
      rw [List.reverse_cons, rnRun_snoc, rrRun_snoc]
      obtain ⟨i1, i2⟩ := ih
      obtain ⟨j1, j2⟩ := i2.step hc d
      exact ⟨by rw [i1, j1], j2⟩
  have h := key ds.reverse
  rwa [List.reverse_reverse] at h
end Go.Proofs.Ytjphckfbbiehdaa

namespace Go.Proofs.Ytjphckfbbiehdaa
open Go.RowKit Go.Maps

theorem rn_new {F : Nat → Prop} {W0 X : World} {Be Bm : Nat} {c W : Int} {t : RnT} (hX : Sep F W0 X (rnK Be Bm c W t)) (hn : t.oj.ps.length ≤ 1000) {n : Nat} (h4 : n ≤ 4) :
    Calls Try.prog 268 #[.pointer (some ⟨Be, 0, none⟩), .int .i64 n] X fun e w' => e = .returned (.tuple #[.int .i64 t.oj.ps.length, .int .i64 0]) ∧ ∃ s' : Oj, s'.abs = t.oj.abs ++ [some (zeroVs n)] ∧ s'.ps.length = t.oj.ps.length + 1 ∧ Sep F W0 w' (rnM Be Bm t :: blkI Be 104 (rnC Bm c W (t.oj_ s')) :: atI t.b t.oj.ps.length (thereL t.oj.abs) t.a.at_ :: ojL s') := by
  have h1 : Sep F W0 X ((blkI Be 104 (rnC Bm c W t) :: ojL t.oj) ++ [rnM Be Bm t, atI t.b t.oj.ps.length (thereL t.oj.abs) t.a.at_]) := by
    refine hX.perm ?_
    unfold rnK rnR
    refine (List.Perm.swap _ _ _).trans (List.Perm.cons _ ?_)
    exact List.perm_append_comm (l₁ := [rnM Be Bm t, atI t.b t.oj.ps.length (thereL t.oj.abs) t.a.at_]) (l₂ := ojL t.oj)
  have h2 := h1.join
  refine (onew_any (Sep.start (h2.get 0 rfl)).flat (cs := rnC Bm c W t) rfl hn h4).mono ?_
  rintro e w' ⟨he, As', c', B, g, hP⟩
  refine ⟨he, t.oj.new As' c' B g n, t.oj.abs_new As' c' B g n, by simp [Oj.new], ?_⟩
  have h3 := h2.call 0 rfl hP.fold
  have h4' : Sep F W0 w' ((blkI Be 104 ((rnC Bm c W t).setIfInBounds 0 (t.oj.new As' c' B g n).v) :: ojL (t.oj.new As' c' B g n)) ++ [rnM Be Bm t, atI t.b t.oj.ps.length (thereL t.oj.abs) t.a.at_]) := Sep.split h3
  refine h4'.perm ?_
  refine ((List.Perm.cons _ (List.perm_append_comm (l₁ := ojL (t.oj.new As' c' B g n)) (l₂ := [rnM Be Bm t, atI t.b t.oj.ps.length (thereL t.oj.abs) t.a.at_]))).trans (List.Perm.swap _ _ _)).trans ?_
  exact List.Perm.refl _
theorem rn_push {W : Int} {t : RnT} {n : Nat} {p : Int} (ok : RnOk W t.a) {s' : Oj} (h : s'.abs = t.oj.abs ++ [some (zeroVs n)]) :
    ({ t with oj := s', ats := t.ats ++ [p] } : RnT).a = t.a.push n p ∧ ∀ x ∈ thereL s'.abs, (x = (t.oj.ps.length : Int) ∧ (t.a.push n p).at_ x = p) ∨ (x ≠ (t.oj.ps.length : Int) ∧ x ∈ thereL t.oj.abs ∧ (t.a.push n p).at_ x = t.a.at_ x) := by
  have hl : t.a.objs.length = t.oj.ps.length := List.length_map ..
  have e : ({ t with oj := s', ats := t.ats ++ [p] } : RnT).a = t.a.push n p := by
    show (⟨t.regs, s'.abs, t.ats ++ [p], t.times⟩ : RnA) = _
    rw [h]; rfl
  refine ⟨e, fun x hx => ?_⟩
  have hx2 : x ∈ thereL (t.a.push n p).objs := by
    show x ∈ thereL (t.oj.abs ++ [some (zeroVs n)])
    rw [← h]; exact hx
  rcases (t.a.push_there n p x).1 hx2 with rfl | h1
  · exact .inl ⟨by rw [hl], (RnA.push_new ok n p).1⟩
  · refine .inr ⟨?_, h1, (RnA.push_at ok n p h1).1⟩
    obtain ⟨i, fs, rfl, hf⟩ := RnA.there.1 h1
    have := RnA.fld_lt hf
    omega

set_option maxRecDepth 100000 in
set_option maxHeartbeats 32000000 in
theorem rnew_any' {F : Nat → Prop} {W0 w : World} {Be Bm : Nat} {c W : Int} {t : RnT} (hK : Sep F W0 w (rnK Be Bm c W t)) (ok : RnOk W t.a) (hc : c = 1 ∨ c = 2 ∨ c = 3) (hW : W ≤ 256) (hn : t.oj.ps.length ≤ 600) (ht0 : 0 ≤ t.times) (ht1 : t.times ≤ 100000) {n : Nat} (h4 : n ≤ 4) :
    Calls Try.prog 265 #[.pointer (some ⟨Be, 0, none⟩), .int .i64 n] w fun e w' => e = .returned (.tuple #[.int .i64 (rnNew c W t.a n).2.1, .int .i64 (rnNew c W t.a n).2.2]) ∧ ∃ t' : RnT, t'.a = (rnNew c W t.a n).1 ∧ Sep F W0 w' (rnK Be Bm c W t') := by
  have w1' : IntKind.i64.wrap (1 + (n : Int)) = 1 + (n : Int) := wrap64 _ (by omega) (by omega)
  have C1 := hide (room_any hK ok hW (by omega) (1 + (n : Int)) (by omega) (by omega))
  have HK := hide hK
  have HO := hide ok
  have CC := hide (fun (X : World) (hX : Sep F W0 X (rnK Be Bm c W t)) => rclear_any hX ok hc hW hn ht0 ht1)
  have CR := hide (fun (X : World) (t2 : RnT) (e : t2.a = t.a.clear c) (hX : Sep F W0 X (rnK Be Bm c W t2)) => (show Calls Try.prog 267 #[.pointer (some ⟨Be, 0, none⟩), .int .i64 (1 + (n : Int))] X fun e w' => e = .returned (.int .i64 ((t.a.clear c).room c W (1 + n))) ∧ Below X.heap.size X w' from by
    have h1 : t2.oj.ps.length = t.oj.ps.length := by
      have h2 : t2.a.objs.length = (t.a.clear c).objs.length := congrArg (fun a : RnA => a.objs.length) e
      have h3 : t2.a.objs.length = t2.oj.ps.length := List.length_map ..
      have h4 : t.a.objs.length = t.oj.ps.length := List.length_map ..
      rw [t.a.clear_len] at h2
      omega
    have h5 := room_any hX (by rw [e]; exact ok.clear c) hW (by omega) (1 + (n : Int)) (by omega) (by omega)
    rw [e] at h5
    exact h5))
  have HLC := hide (fun (t2 : RnT) (e : t2.a = t.a.clear c) => (show t2.oj.ps.length = t.oj.ps.length from by
    have h2 : t2.a.objs.length = (t.a.clear c).objs.length := congrArg (fun a : RnA => a.objs.length) e
    have h3 : t2.a.objs.length = t2.oj.ps.length := List.length_map ..
    have h4 : t.a.objs.length = t.oj.ps.length := List.length_map ..
    rw [t.a.clear_len] at h2
    omega))
  have HRL := hide (show ∀ a : RnA, RnOk W a → 0 ≤ a.room c W (1 + n) → a.room c W (1 + n) ≤ 256 from fun a oka h => by
    have := (roomG_ok (sw := decide (c = 1)) (n := 1 + (n : Int)) (by omega) (fun x _ => a.sz_pos x) oka.lad (Int.le_refl _) h).2.1
    unfold RnA.room
    omega)
  have HN := hide hn
  obtain ⟨N, hN⟩ : ∃ q, t.oj.ps.length = q := ⟨_, rfl⟩
  have hal : (t.a.objs.length : Int) = (N : Int) := by
    have h4 : t.a.objs.length = t.oj.ps.length := List.length_map ..
    omega
  rw [hN] at HN
  simp only [hN] at HLC
  have HNN := hide hN
  have e1 : 0 ≤ t.a.room c W (1 + n) → rnNew c W t.a n = (t.a.push n (t.a.room c W (1 + n)), (N : Int), 0) := fun h => by unfold rnNew; rw [if_pos h, hal]
  have e2 : ¬ 0 ≤ t.a.room c W (1 + n) → 0 ≤ (t.a.clear c).room c W (1 + n) → rnNew c W t.a n = ((t.a.clear c).push n ((t.a.clear c).room c W (1 + n)), (N : Int), 0) := fun h h' => by unfold rnNew; rw [if_neg h, if_pos h', hal]
  have e3 : ¬ 0 ≤ t.a.room c W (1 + n) → ¬ 0 ≤ (t.a.clear c).room c W (1 + n) → rnNew c W t.a n = (t.a.clear c, 0, 6) := fun h h' => by unfold rnNew; rw [if_neg h, if_neg h']
  have H1 := hide e1
  have H2 := hide e2
  have H3 := hide e3
  obtain ⟨res, hres⟩ : ∃ r, rnNew c W t.a n = r := ⟨_, rfl⟩
  rw [hres]
  simp only [hres] at H1 H2 H3
  obtain ⟨r1, hr1⟩ : ∃ r, t.a.room c W (1 + n) = r := ⟨_, rfl⟩
  rw [hr1] at C1
  have HR1 := hide hr1
  obtain ⟨r2, hr2⟩ : ∃ r, (t.a.clear c).room c W (1 + n) = r := ⟨_, rfl⟩
  simp only [hr2] at CR
  have HR2 := hide hr2
  simp only [hr1, hr2] at H1 H2 H3
  have HOC := hide (ok.clear c)
  clear hK ok hc hW hn ht0 ht1 hal e1 e2 e3 hres hr1 hr2 hN
  go_enter Try.func265, Try.ntmps265
  go_wp2_with fail
  refine C1.out.mono ?_
  rintro e w1 ⟨rfl, hb1⟩
  have HK1 := hide (HK.out.below hb1)
  clear hb1 C1 HK
  by_cases hp : 0 ≤ r1
  · have t1 : decide (r1 < 0) = false := by simp; omega
    obtain rfl := H1.out hp
    have HP9 := hide (show r1 ≤ 256 by have := HRL.out _ HO.out (by rw [HR1.out]; exact hp); rw [HR1.out] at this; exact this)
    have HPS := hide (fun (s' : Oj) (h : s'.abs = t.oj.abs ++ [some (zeroVs n)]) => rn_push (p := r1) HO.out h)
    have CN := hide (rn_new HK1.out (by have := HN.out; rw [HNN.out]; omega) h4)
    rw [HNN.out] at CN HPS
    clear CC CR HLC HRL H1 H2 H3 HOC HR2 HK1
    go_wp2_with fail
    refine CN.out.mono ?_
    rintro e w5 ⟨rfl, s', hab, hps, hS5⟩
    obtain ⟨k1, k2, k3, -⟩ := hS5.rules 1 (g := Be) (t := 104) rfl
    have k5 := (k1 2).trans (show _ = some (.map (some t.b)) from rfl)
    obtain ⟨q1, q2⟩ := HPS.out s' hab
    have HQ1 := hide q1
    have HQ2 := hide q2
    have HAB := hide hps
    have HWZ := hide (wfI_of (x := (N : Int)) (by omega) (by have := HN.out; omega))
    have HWB := hide (wfI_of (x := r1) hp (by have := HP9.out; omega))
    have HNL := hide (show N + 1 < maxLen by have := HN.out; unfold maxLen; omega)
    obtain ⟨mb, hmb⟩ : ∃ q, t.b = q := ⟨_, rfl⟩
    rw [hmb] at k5 hS5
    have HMB := hide hmb
    have HS5 := hide hS5
    clear k1 q1 q2 hab hps hS5 hmb CN HPS
    go_wp2_with (first
      | (at_mapUpdate
         refine wpList_atPut rfl _ _ _ rfl (F := F) (W := W0) (items := _ :: _ :: _ :: _) HS5.out 2 (b := mb) rfl HNL.out (N : Int) r1 rfl rfl rfl HWZ.out HWB.out (N + 1) (thereL s'.abs) (t.a.push n r1).at_ (.inr (Nat.le_refl _)) HQ2.out ?_
         intro w7 hS7))
    have HFIN := hide (show Sep F W0 w7 (rnK Be Bm c W { t with oj := s', ats := t.ats ++ [r1] }) from by
      unfold rnK rnR
      rw [HQ1.out]
      show Sep F W0 w7 (rnM Be Bm t :: blkI Be 104 (rnC Bm c W (t.oj_ s')) :: atI t.b s'.ps.length (thereL s'.abs) _ :: ojL s')
      rw [HMB.out, HAB.out]
      exact hS7)
    clear hS7 HS5
    go_wp2_with fail
    refine bodyPost_ret (v := .tuple #[.int .i64 N, .int .i64 0]) (by simp [results, Try.results265, go_sem]) rfl ⟨rfl, _, HQ1.out, HFIN.out⟩
  · have t1 : decide (r1 < 0) = true := by simp; omega
    have CC1 := hide (CC.out w1 HK1.out)
    clear CC HK1 H1
    go_wp2_with fail
    refine CC1.out.mono ?_
    rintro e w2 ⟨⟨u, rfl⟩, t2, ht2, hS2⟩
    have CR2 := hide (CR.out w2 t2 ht2 hS2)
    have HS2 := hide hS2
    have HLT := hide (HLC.out t2 ht2)
    have HT2 := hide ht2
    clear CC1 CR hS2 ht2 HLC
    go_wp2_with fail
    refine CR2.out.mono ?_
    rintro e w3 ⟨rfl, hb3⟩
    have HK3 := hide (HS2.out.below hb3)
    clear CR2 hb3 HS2
    by_cases hq : 0 ≤ r2
    · have t2' : decide (r2 < 0) = false := by simp; omega
      obtain rfl := H2.out (by omega) hq
      have HP9 := hide (show r2 ≤ 256 by have := HRL.out _ HOC.out (by rw [HR2.out]; exact hq); rw [HR2.out] at this; exact this)
      have HPS := hide (fun (s' : Oj) (h : s'.abs = t2.oj.abs ++ [some (zeroVs n)]) => rn_push (t := t2) (p := r2) (show RnOk W t2.a by rw [HT2.out]; exact HOC.out) h)
      have CN := hide (rn_new HK3.out (by have := HN.out; have := HLT.out; omega) h4)
      rw [HLT.out] at CN HPS
      clear HRL H2 H3 HOC HR2 HK3
      go_wp2_with fail
      refine CN.out.mono ?_
      rintro e w5 ⟨rfl, s', hab, hps, hS5⟩
      obtain ⟨k1, k2, k3, -⟩ := hS5.rules 1 (g := Be) (t := 104) rfl
      have k5 := (k1 2).trans (show _ = some (.map (some t2.b)) from rfl)
      obtain ⟨q1, q2⟩ := HPS.out s' hab
      have HQ1 := hide q1
      have HQ2 := hide q2
      have HAB := hide hps
      have HWZ := hide (wfI_of (x := (N : Int)) (by omega) (by have := HN.out; omega))
      have HWB := hide (wfI_of (x := r2) hq (by have := HP9.out; omega))
      have HNL := hide (show N + 1 < maxLen by have := HN.out; unfold maxLen; omega)
      obtain ⟨mb, hmb⟩ : ∃ q, t2.b = q := ⟨_, rfl⟩
      rw [hmb] at k5 hS5
      have HMB := hide hmb
      have HS5 := hide hS5
      clear k1 q1 q2 hab hps hS5 hmb CN HPS
      go_wp2_with (first
        | (at_mapUpdate
           refine wpList_atPut rfl _ _ _ rfl (F := F) (W := W0) (items := _ :: _ :: _ :: _) HS5.out 2 (b := mb) rfl HNL.out (N : Int) r2 rfl rfl rfl HWZ.out HWB.out (N + 1) (thereL s'.abs) (t2.a.push n r2).at_ (.inr (Nat.le_refl _)) HQ2.out ?_
           intro w7 hS7))
      have HFIN := hide (show Sep F W0 w7 (rnK Be Bm c W { t2 with oj := s', ats := t2.ats ++ [r2] }) from by
        unfold rnK rnR
        rw [HQ1.out]
        show Sep F W0 w7 (rnM Be Bm t2 :: blkI Be 104 (rnC Bm c W (t2.oj_ s')) :: atI t2.b s'.ps.length (thereL s'.abs) _ :: ojL s')
        rw [HMB.out, HAB.out]
        exact hS7)
      clear hS7 HS5
      go_wp2_with fail
      refine bodyPost_ret (v := .tuple #[.int .i64 N, .int .i64 0]) (by simp [results, Try.results265, go_sem]) rfl ⟨rfl, _, (HQ1.out.trans (by rw [HT2.out])), HFIN.out⟩
    · have t2' : decide (r2 < 0) = true := by simp; omega
      obtain rfl := H3.out (by omega) (by omega)
      clear HRL H2 H3 HOC HR2 HR1
      go_wp2_with fail
      refine bodyPost_ret (v := .tuple #[.int .i64 0, .int .i64 6]) (by simp [results, Try.results265, go_sem]) rfl ⟨rfl, t2, HT2.out, HK3.out⟩
end Go.Proofs.Ytjphckfbbiehdaa

namespace Go.Proofs.Ytjphckfbbiehdaa
open Go.RowKit

/-- What holds within a deed. -/
structure RnOk2 (W : Int) (a : RnA) : Prop where
  ok : RnOk W a
  n : a.objs.length ≤ 500
  t0 : 0 ≤ a.times
  t1 : a.times ≤ 500
def rnKm (c W : Int) (Bm Be : Nat) : MemK where
  A := RnA
  St := RnT
  abs := RnT.a
  Bm := Bm
  T := 98
  p := .pointer (some ⟨Be, 0, none⟩)
  regs := RnA.regs
  fld := RnA.fld
  rest t := rnR Be Bm c W t
  ok := RnOk2 W
  ok1 a := RnOk W a ∧ a.objs.length < 500 ∧ 0 ≤ a.times ∧ a.times < 500
  hold a _ _ := a
  setr := RnA.sr
  new_ a n := rnNew c W a n
  put := rnPut
  fH := 263
  fN := 265
  fL := 264
  fG := 262
  fP := 266
  rL t := t.oj.v
  rG t := t.oj.v
  rP t := t.oj.v

set_option maxHeartbeats 400000 in
theorem rhold_any (w : World) (p : Value) (r : Int) (v : Val) : Calls Try.prog 263 #[p, .int .i64 r, .agg #[.bool v.1, .int .i64 v.2]] w fun e w' => (∃ u, e = .returned u) ∧ Below w.heap.size w w' := by
  go_enter Try.func263, Try.ntmps263
  go_wp2_with fail
  go_end0
  exact ⟨⟨_, rfl⟩, (Below.refl _ w).alloc (Nat.le_refl _) _⟩
theorem rmeth_hold (x : Value) (w : World) : (method 455 98 x "Hold").run Try.prog w = .ok (263, x) w := by kernel_rfl
theorem rmeth_new (x : Value) (w : World) : (method 455 98 x "New").run Try.prog w = .ok (265, x) w := by kernel_rfl
theorem rmeth_put0 (Be : Nat) (w : World) : (method 455 98 (.pointer (some ⟨Be, 0, none⟩)) "Put").run Try.prog w = (Sem.run Try.prog (do let v ← receiverAt 101 (.var ⟨Be, 0, none⟩) false none; pure (266, v)) w) := by kernel_rfl
theorem rmeth_len0 (Be : Nat) (w : World) : (method 455 98 (.pointer (some ⟨Be, 0, none⟩)) "Len").run Try.prog w = (Sem.run Try.prog (do let v ← receiverAt 101 (.var ⟨Be, 0, none⟩) false none; pure (264, v)) w) := by kernel_rfl
theorem rmeth_get0 (Be : Nat) (w : World) : (method 455 98 (.pointer (some ⟨Be, 0, none⟩)) "Get").run Try.prog w = (Sem.run Try.prog (do let v ← receiverAt 101 (.var ⟨Be, 0, none⟩) false none; pure (262, v)) w) := by kernel_rfl
theorem rmeth_put (Be : Nat) (v : Value) (w : World) (h : w.cell? ⟨Be, 0, none⟩ = some v) : (method 455 98 (.pointer (some ⟨Be, 0, none⟩)) "Put").run Try.prog w = .ok (266, v) w := by
  rw [rmeth_put0, Sem.run_bind, recv_cell Be w v h]; rfl
theorem rmeth_len (Be : Nat) (v : Value) (w : World) (h : w.cell? ⟨Be, 0, none⟩ = some v) : (method 455 98 (.pointer (some ⟨Be, 0, none⟩)) "Len").run Try.prog w = .ok (264, v) w := by
  rw [rmeth_len0, Sem.run_bind, recv_cell Be w v h]; rfl
theorem rmeth_get (Be : Nat) (v : Value) (w : World) (h : w.cell? ⟨Be, 0, none⟩ = some v) : (method 455 98 (.pointer (some ⟨Be, 0, none⟩)) "Get").run Try.prog w = .ok (262, v) w := by
  rw [rmeth_get0, Sem.run_bind, recv_cell Be w v h]; rfl
theorem rkm_flat {c W : Int} {Bm Be : Nat} {t : RnT} {w : World} (hP : ((rnKm c W Bm Be).item t).P w) : Sep ((rnKm c W Bm Be).item t).fp w w (rnK Be Bm c W t) := (Sep.start hP).flat
theorem rkm_fold {c W : Int} {Bm Be : Nat} {t : RnT} {F : Nat → Prop} {W0 w : World} (h : Sep F W0 w (rnK Be Bm c W t)) : Sep F W0 w [(rnKm c W Bm Be).item t] := Sep.fold (l := (rnKm c W Bm Be).items t) h
theorem rn_fld {t : RnT} {i : Nat} {fs : List Val} (h : t.a.fld i = some fs) : ∃ p, t.oj.ps[i]? = some (some p) ∧ p.o.fields = fs := oj_abs_at (RnA.fld_iff.1 h)
theorem rn_len (t : RnT) : t.a.objs.length = t.oj.ps.length := List.length_map ..
theorem rnNew_len (c W : Int) (a : RnA) (n : Nat) : (rnNew c W a n).1.objs.length ≤ a.objs.length + 1 ∧ a.objs.length ≤ (rnNew c W a n).1.objs.length ∧ a.times ≤ (rnNew c W a n).1.times ∧ (rnNew c W a n).1.times ≤ a.times + 1 := by
  rcases rnNew_cases c W a n with ⟨b, p, hb, e⟩ | e
  · rw [e]
    rcases hb with rfl | rfl
    · exact ⟨by show (b.objs ++ [_]).length ≤ _; simp, by show _ ≤ (b.objs ++ [_]).length; simp, Int.le_refl _, by show b.times ≤ _; omega⟩
    · refine ⟨?_, ?_, ?_, ?_⟩
      · show ((a.clear c).objs ++ [_]).length ≤ _; rw [List.length_append, a.clear_len]; simp
      · show _ ≤ ((a.clear c).objs ++ [_]).length; rw [List.length_append, a.clear_len]; omega
      · show _ ≤ (a.clear c).times; rw [a.clear_times]; omega
      · show (a.clear c).times ≤ _; rw [a.clear_times]; omega
  · rw [e]
    exact ⟨by show (a.clear c).objs.length ≤ _; rw [a.clear_len]; omega, by show _ ≤ (a.clear c).objs.length; rw [a.clear_len]; omega, by show _ ≤ (a.clear c).times; rw [a.clear_times]; omega, by show (a.clear c).times ≤ _; rw [a.clear_times]; omega⟩
set_option maxHeartbeats 1000000 in
theorem rnKm_ok {c W : Int} (hc : c = 1 ∨ c = 2 ∨ c = 3) (hW : W ≤ 256) (Bm Be : Nat) : (rnKm c W Bm Be).Ok where
  r8 _ ok := RnOk.r8 (RnOk2.ok ok)
  vr _ v ok hv := RnOk.vr (RnOk2.ok ok) v hv
  vf _ i fs v ok h hv := RnOk.vf (RnOk2.ok ok) i fs v h hv
  f4 _ i fs ok h := RnOk.f4 (RnOk2.ok ok) i fs h
  lim _ i fs ok h := by have h1 := RnA.fld_lt h; have h2 := RnOk2.n ok; omega
  set_ t r v := ⟨{ t with regs := t.regs.set r v }, rfl, rfl⟩
  regs_set _ _ _ := rfl
  regs_hold _ _ _ := rfl
  regs_put _ _ _ _ := rfl
  eH := kenter_of Try.func263 (by kernel_rfl) rfl
  eN := kenter_of Try.func265 (by kernel_rfl) rfl
  eL := kenter_of Try.func264 (by kernel_rfl) rfl
  eG := kenter_of Try.func262 (by kernel_rfl) rfl
  eP := kenter_of Try.func266 (by kernel_rfl) rfl
  mH w := rmeth_hold _ w
  mN w := rmeth_new _ w
  mL _ w hP := rmeth_len Be _ w (rn_cells (pre := []) (rkm_flat hP)).1
  mG _ w hP := rmeth_get Be _ w (rn_cells (pre := []) (rkm_flat hP)).1
  mP _ w hP := rmeth_put Be _ w (rn_cells (pre := []) (rkm_flat hP)).1
  cH t w r v hP _ _ _ := (rhold_any w _ r v).mono fun _ _ ⟨he, hb⟩ => ⟨he, t, rfl, (Sep.start hP).below hb⟩
  cN t w n hP ok h4 := by
    have hn : t.oj.ps.length ≤ 500 := by have h1 := RnOk2.n ok; have h2 := rn_len t; exact h2 ▸ h1
    refine (rnew_any' (rkm_flat hP) (RnOk2.ok ok) hc hW (by omega) (RnOk2.t0 ok) (by have h := RnOk2.t1 ok; have h2 : ((rnKm c W Bm Be).abs t).times = t.times := rfl; omega) h4).mono ?_
    rintro e w' ⟨he, t', e1, hS⟩
    exact ⟨he, t', e1, rkm_fold hS⟩
  ok_of _ h := ⟨h.1, by have := h.2.1; omega, h.2.2.1, by have := h.2.2.2; omega⟩
  okN a n h h4 := by
    obtain ⟨k1, k2⟩ := RnOk.new_ h.1 c h4
    obtain ⟨l1, l2, l3, l4⟩ := rnNew_len c W a n
    exact ⟨⟨k1, by show (rnNew c W a n).1.objs.length ≤ 500; have := h.2.1; omega, by show 0 ≤ (rnNew c W a n).1.times; have := h.2.2.1; omega, by show (rnNew c W a n).1.times ≤ 500; have := h.2.2.2; omega⟩, k2⟩
  cL t w i fs hP ok h := by
    obtain ⟨p, hp, hf⟩ := rn_fld h
    have hS := rkm_flat hP
    have hl := oj_len (pre := [_, _, _]) hS hp
    have hn : t.oj.ps.length ≤ 500 := by have h1 := RnOk2.n ok; have h2 := rn_len t; exact h2 ▸ h1
    refine (olen_any (pre := [_, _, _]) hS (by omega) hp).mono fun e w' ⟨he, hw⟩ => ⟨?_, hw⟩
    rw [he, ← hf, hl]
  cG t w i k fs hk hP ok h := by
    obtain ⟨p, hp, hf⟩ := rn_fld h
    have hS := rkm_flat hP
    have hn : t.oj.ps.length ≤ 500 := by have h1 := RnOk2.n ok; have h2 := rn_len t; exact h2 ▸ h1
    have h4 := RnOk.f4 (RnOk2.ok ok) i fs h
    subst hf
    exact oget_any (pre := [_, _, _]) hS (by omega) hp hk h4
  cP t w i k fs v hk hP ok h hv := by
    obtain ⟨p, hp, hf⟩ := rn_fld h
    have hS := rkm_flat hP
    have hn : t.oj.ps.length ≤ 500 := by have h1 := RnOk2.n ok; have h2 := rn_len t; exact h2 ▸ h1
    have h4 := RnOk.f4 (RnOk2.ok ok) i fs h
    subst hf
    have h1 : Sep ((rnKm c W Bm Be).item t).fp w w (ojL t.oj ++ [rnM Be Bm t, blkI Be 104 (rnC Bm c W t), atI t.b t.oj.ps.length (thereL t.oj.abs) t.a.at_]) := hS.perm (List.perm_append_comm (l₁ := [rnM Be Bm t, blkI Be 104 (rnC Bm c W t), atI t.b t.oj.ps.length (thereL t.oj.abs) t.a.at_]))
    have h2 := h1.join
    refine (oput_any (h2.get 0 rfl) (by omega) v hp hk h4).mono ?_
    rintro e w' ⟨he, hP2⟩
    have h3 := h2.call 0 rfl hP2
    have h5 : Sep ((rnKm c W Bm Be).item t).fp w w' (ojL (t.oj.put i k v p) ++ [rnM Be Bm t, blkI Be 104 (rnC Bm c W t), atI t.b t.oj.ps.length (thereL t.oj.abs) t.a.at_]) := Sep.split h3
    have h6 := h5.perm (l := [rnM Be Bm t, blkI Be 104 (rnC Bm c W t), atI t.b t.oj.ps.length (thereL t.oj.abs) t.a.at_] ++ ojL (t.oj.put i k v p)) List.perm_append_comm
    have hpl : (t.oj.put i k v p).ps.length = t.oj.ps.length := by show (t.oj.ps.set _ _).length = _; rw [List.length_set]
    have hth : thereL (t.oj.put i k v p).abs = thereL t.oj.abs := by
      have hlen : (t.oj.put i k v p).abs.length = t.oj.abs.length := by rw [oj_put_abs, List.length_set]
      unfold thereL thereK
      rw [hlen]
      congr 1
      refine List.filter_congr fun j hj => ?_
      rw [oj_put_abs, List.getD_eq_getElem?_getD, List.getD_eq_getElem?_getD, List.getElem?_set]
      by_cases e : i = j
      · subst e
        have h7 : t.oj.abs[i]? = some (some p.o.fields) := RnA.fld_iff.1 h
        rw [if_pos rfl, if_pos (List.getElem?_eq_some_iff.1 h7).1, h7]
        rfl
      · rw [if_neg e]
    refine ⟨he, t.oj_ (t.oj.put i k v p), ?_, rkm_fold ?_⟩
    · show (⟨t.regs, (t.oj.put i k v p).abs, t.ats, t.times⟩ : RnA) = rnPut t.a i k v
      unfold rnPut
      rw [oj_put_abs, show t.a.fld i = some p.o.fields from h]
      rfl
    · unfold rnK rnR
      have e1 : rnC Bm c W (t.oj_ (t.oj.put i k v p)) = rnC Bm c W t := by
        unfold rnC RnT.oj_ Oj.v
        dsimp only
        rw [hpl]
        rfl
      rw [e1]
      show Sep _ w w' (rnM Be Bm t :: blkI Be 104 (rnC Bm c W t) :: atI t.b (t.oj.put i k v p).ps.length (thereL (t.oj.put i k v p).abs) t.a.at_ :: ojL (t.oj.put i k v p))
      rw [hpl, hth]
      exact h6
end Go.Proofs.Ytjphckfbbiehdaa
