/- Trials: an object is tried, or kept, and all to which it leads: the walks. Counts of references: one more for each; the closure that counts. Trials, plain: the answer. -/
import Derived.Test.YtaajkldhnjoicaaGTrialTells0
set_option linter.unusedSimpArgs false
set_option linter.unusedVariables false
namespace Go.Proofs.Ytaajkldhnjoicaa
open Go.RowKit Go.Shelf
attribute [local go_sem] Oper.semAt_some

/-- An object of a graph that reads, and where it stands. -/
theorem ob_at {w : World} {D : Nat → Prop} {AO : Option Addr} {nO : Nat} {obs : List Ob} (hO : ObsRd w D AO nO obs) {gs : List (List Val)} (h3 : obs.map Ob.fields = gs) (hfl : ∀ o ∈ obs, o.n ≤ 4) {i : Nat} (hi : i < nO) :
    ∃ (ad : Addr) (o : Ob), AO = some ad ∧ D ad.block ∧ ad.block < w.heap.size ∧ w.cell? (ad.add i) = some (.slice o.A o.n o.c) ∧ Rd w D 2 o.A o.n (vals o.fields) ∧ fieldsI gs (i : Int) = o.fields ∧ o.n ≤ 4 ∧ o.fields.length = o.n := by
  have hil : i < obs.length := by rw [hO.len]; exact hi
  obtain ⟨ad, hA, hd, had, hc⟩ := hO.row.at_ hi
  refine ⟨ad, obs[i], hA, hd, had, hc _ (by simp [List.getElem?_eq_getElem hil, Ob.val]), hO.each _ (List.getElem_mem hil), ?_, hfl _ (List.getElem_mem hil), hO.flen (List.getElem_mem hil)⟩
  unfold fieldsI
  rw [← h3, List.getD_eq_getElem?_getD]
  simp [List.getElem?_eq_getElem hil]
theorem row_int {w : World} {n c g : Nat} {l : List Int} (h : (rowI 3 1 (some ⟨g, 0, none⟩) n c (ints l)).P w) (k : Nat) (hk : k < n) : w.cell? ⟨g, k, none⟩ = some (.int .i64 (l.getD k 0)) ∧ w.frozen? ⟨g, k, none⟩ = false := by
  obtain ⟨g', hg, h1⟩ := ints_cell h k hk
  obtain rfl : g = g' := by injection hg with hg; injection hg
  exact ⟨h1, (show w.ownsRow 0 3 1 (.slice (some ⟨g, 0, none⟩) n c) n (ints l) from h).frozenAt k⟩

def trIt (gh gl n : Nat) (s : List Int × List Int) : Item := allI [rowI 3 1 (some ⟨gh, 0, none⟩) n n (ints s.1), rowI 3 1 (some ⟨gl, 0, none⟩) n n (ints s.2)]
theorem trIt_tame (B gh gl n : Nat) (s : List Int × List Int) : Tame B (trIt gh gl n s) := Tame.all fun i hi => by
  simp only [List.mem_cons, List.not_mem_nil, or_false] at hi
  rcases hi with rfl | rfl
  · exact Tame.row _ _ _ _ _ _ _
  · exact Tame.row _ _ _ _ _ _ _
theorem trIt_fp {gh gl n : Nat} {s : List Int × List Int} {k : Nat} : (trIt gh gl n s).fp k ↔ k = gh ∨ k = gl := by
  simp only [trIt, allI, rowI, Value.ownBlock, List.mem_cons, List.not_mem_nil, or_false]
  constructor
  · rintro ⟨i, rfl | rfl, h⟩
    · exact .inl (by simpa using h.symm)
    · exact .inr (by simpa using h.symm)
  · rintro (h | h)
    · exact ⟨_, .inl rfl, by simp [h]⟩
    · exact ⟨_, .inr rfl, by simp [h]⟩
def tCells (gh gl : Nat) (AO AR : Option Addr) (nO cO nR cR : Nat) : Array Value := #[.slice AO nO cO, .slice AR nR cR, .slice (some ⟨gh, 0, none⟩) nO nO, .slice (some ⟨gl, 0, none⟩) nO nO]
/-- What is known of a trial's memory. -/
structure TrM (Bt gh gl : Nat) (AO AR : Option Addr) (nO cO nR cR : Nat) (obs : List Ob) (w : World) : Prop where
  o : ObsRd w (fun k => k ≠ gh ∧ k ≠ gl) AO nO obs
  b : Blk w Bt 97 (tCells gh gl AO AR nO cO nR cR)
  h : Bt ≠ gh
  l : Bt ≠ gl
theorem TrM.chg {Bt gh gl : Nat} {AO AR : Option Addr} {nO cO nR cR : Nat} {obs : List Ob} {w w' : World} {F : Nat → Prop} (a : TrM Bt gh gl AO AR nO cO nR cR obs w) (hc : Chg F w w') (hF : ∀ k, F k → k = gh ∨ k = gl) : TrM Bt gh gl AO AR nO cO nR cR obs w' :=
  ⟨a.o.chg hc (fun g hg hd => by rcases hF g hg with h | h; exact hd.1 h; exact hd.2 h), a.b.chg hc (fun h => by rcases hF _ h with h | h; exact a.h h; exact a.l h), a.h, a.l⟩
def TakeC (Bt gh gl : Nat) (AO AR : Option Addr) (nO cO nR cR : Nat) (obs : List Ob) (gs : List (List Val)) (m : Nat) : Prop :=
  ∀ (w : World) (i : Nat) (h l : List Int), TrM Bt gh gl AO AR nO cO nR cR obs w → (trIt gh gl nO (h, l)).P w → i < nO → h.length = nO → l.length = nO → TkB gs nO m h l →
    Calls Try.prog 70 #[.pointer (some ⟨Bt, 0, none⟩), .int .i64 i] w (RetS (trIt gh gl nO) (fun s => Tk gs nO (Star gs nO i) h l s.1 s.2 ∧ s.1.getD i 0 = 1) (trIt gh gl nO (h, l)).fp w)

set_option maxRecDepth 100000 in
set_option maxHeartbeats 4000000 in
theorem take_step (Bt gh gl : Nat) (AO AR : Option Addr) (nO cO nR cR : Nat) (obs : List Ob) (gs : List (List Val)) (h3 : obs.map Ob.fields = gs) (hfl : ∀ o ∈ obs, o.n ≤ 4) (hn : nO ≤ 24) (hv : ∀ x : Int, ValsOk nO (fieldsI gs x)) (hf4 : ∀ x : Int, (fieldsI gs x).length ≤ 4) (m : Nat) (ih : ∀ k, m = k + 1 → TakeC Bt gh gl AO AR nO cO nR cR obs gs k) : TakeC Bt gh gl AO AR nO cO nR cR obs gs m := by
  intro w i h l hM hP hi hhl hll hB
  obtain ⟨F, hF⟩ : ∃ F, (trIt gh gl nO (h, l)).fp = F := ⟨_, rfl⟩
  have hFk : ∀ k, F k → k = gh ∨ k = gl := fun k hk => by rw [← hF] at hk; exact trIt_fp.1 hk
  have hS0 := (Sep.start hP).blkAt 95 #[.pointer (some ⟨Bt, 0, none⟩)] (g := w.heap.size) rfl
  rw [hF] at hS0 ⊢
  obtain ⟨c1, c2, c3⟩ := (hM.chg hS0.bel hFk).b.rules
  have c4 : (w.alloc (.cells #[.pointer (some ⟨Bt, 0, none⟩)] 95)).cell? ⟨Bt, 0, none⟩ = some (.slice AO nO cO) := (c1 0).trans rfl
  have c5 : (w.alloc (.cells #[.pointer (some ⟨Bt, 0, none⟩)] 95)).cell? ⟨Bt, 2, none⟩ = some (.slice (some ⟨gh, 0, none⟩) nO nO) := (c1 2).trans rfl
  obtain ⟨f1, f2⟩ := row_int (hS0.split.get 0 rfl) i hi
  obtain ⟨b1, b2, b3, b4⟩ := hS0.rules 1 (g := w.heap.size) (t := 95) rfl
  have HFK := hide hFk
  have HP := hide hP
  have HF := hide hF
  have HM := hide hM
  have HB := hide hB
  have HHL := hide hhl
  have HLL := hide hll
  have HS0 := hide hS0
  have HV := hide hv
  have HF4 := hide hf4
  have HIH := hide ih
  have H3 := hide h3
  have HFL := hide hfl
  clear hF hFk hP hM hB hhl hll hS0 hv hf4 ih h3 hfl c1
  by_cases hone : h.getD i 0 = 1
  · rw [hone] at f1
    have HT := hide (show Tk gs nO (Star gs nO i) h l h l from Tk.refl HHL.out HLL.out)
    have HO := hide hone
    clear hone
    go_enter Try.func70, Try.ntmps70
    go_wp2_with fail
    go_end0
    exact ⟨(h, l), ⟨_, rfl⟩, ⟨HT.out, HO.out⟩, HS0.out.sub (by simp)⟩
  · obtain ⟨y, hy⟩ : ∃ y, h.getD i 0 = y := ⟨_, rfl⟩
    rw [hy] at f1
    have y1 : (y == 1) = false := by rw [beq_eq_false_iff_ne, ← hy]; exact hone
    obtain ⟨m', hm'⟩ : ∃ m', m = m' + 1 := ⟨m - 1, by have := HB.out.pos hi hone; omega⟩
    subst hm'
    have hS1 := ((HS0.out.split.store 0 (g := gh) rfl i (.int .i64 1)).join (l := [_, _]) (l' := [_]))
    rw [ints_set_] at hS1
    obtain ⟨k1, k2, k3, k4⟩ := hS1.rules 1 (g := w.heap.size) (t := 95) rfl
    have k5 := k1 0
    have hM1 := HM.out.chg hS1.bel HFK.out
    obtain ⟨d1, d2, d3⟩ := hM1.b.rules
    have d4 := (d1 0).trans (show _ = some (.slice AO nO cO) from rfl)
    obtain ⟨ad, o, hAO, _, had, e0, hrd, hfi, ho4, hofl⟩ := ob_at hM1.o H3.out HFL.out hi
    have HTL := hide (TkL.start (gs := gs) HHL.out HLL.out hi hone)
    have HNI := hide hone
    have HS1 := hide hS1
    have HM1 := hide hM1
    have HRD := hide hrd
    have HFI := hide hfi
    have hbi := HS0.out.hi 0 rfl gh (trIt_fp.2 (.inl rfl))
    clear hone hy hS1 hM1 hrd hfi d1 k1 k4
    subst hAO
    refine (callsIn_wide (n := 10)).1 ?_
    refine callsIn_of_wp_calm Try.func70 rfl trivial ?_ rfl
    simp only [Try.ntmps70, List.size_toArray, List.length_cons, List.length_nil, Nat.reduceAdd, Nat.reduceSub, Array.replicate_succ, Array.replicate_zero, List.push_toArray, List.append_toArray, List.nil_append, List.cons_append]
    gi_wp2_with (refine ⟨trivial, ?_⟩; gi_at_call 69; refine (targets_in Fence.wide 9 trivial rfl _ _ _ _).mono ?_; rintro e w2 ⟨rfl, rfl⟩)
    have hS2 := HS1.out.blkAt 23 #[.slice o.A o.n o.c] (g := w.heap.size + 1) (by simp)
    have hM2 := HM.out.chg hS2.bel HFK.out
    refine wpIn_tgt (n := 10) rfl (by omega) trivial (w.heap.size + 1) (by rfl) (by rfl) (trIt gh gl nO) (h.set i 1, l) (vs := o.fields) (by omega) (hS2.get 2 rfl) (hS2.other (a := 2) (b := 0) rfl rfl (by omega) _ rfl)
      ((HRD.out.below ((Below.refl _ _).alloc (Nat.le_refl _) _)).more (fun g _ hg hf => by rcases trIt_fp.1 hf with h | h; exact hg.1 h; exact hg.2 h))
      (fun pre s => TkL gs nO i pre h l s.1 s.2) (fun _ _ _ => False) (fun s => trIt_tame _ _ _ _ s) HTL.out (hS2.get 0 rfl) ?a1 ?assign ?body ?done ?stop
    case assign =>
      intro l x W K hK
      gi_wp2
      exact hK
    case stop =>
      rintro Dd c pre s W hD hpre hF
      exact hF.elim
    case body =>
      rintro lo pre x ⟨h2, l2⟩ W hx hpre hlen hI hP2
      dsimp only at hI
      rw [← HFI.out] at hx hlen
      have hlen4 : (tgts (fieldsI gs (i : Int))).length ≤ 4 := Nat.le_trans (tgts_len _) (HF4.out _)
      obtain ⟨x0, x1⟩ := HV.out _ _ (tgts_mem.1 hx) rfl
      dsimp only at x0 x1
      obtain ⟨z, rfl⟩ := int_nat x0
      have hz : z < nO := by omega
      have hSW := hS2.call 0 rfl hP2
      have hMW := HM.out.chg hSW.bel HFK.out
      obtain ⟨d1, d2, d3⟩ := hMW.b.rules
      have d5 := (d1 3).trans (show _ = some (.slice (some ⟨gl, 0, none⟩) nO nO) from rfl)
      obtain ⟨q1, q2⟩ := row_int (hSW.split.get 1 rfl) z hz
      obtain ⟨p1, p2, p3, p4⟩ := hSW.rules 1 (g := w.heap.size) (t := 95) rfl
      have p5 := p1 0
      obtain ⟨lz1, lz2⟩ := HB.out.bnd hI hz (by omega) hn HF4.out
      obtain ⟨y2, hy2⟩ : ∃ y, l2.getD z 0 = y := ⟨_, rfl⟩
      have hP3 := ((Sep.start (hP2.get 0 rfl)).flat.store 1 (g := gl) rfl z (.int .i64 (y2 - 1))).fold
      rw [ints_set_] at hP3
      have hSW2 := hSW.call 0 rfl hP3
      obtain ⟨r1, r2, r3, r4⟩ := hSW2.rules 1 (g := w.heap.size) (t := 95) rfl
      have r5 := r1 0
      have hBN := HB.out.next HHL.out hI hi HNI.out hz (by omega)
      rw [hy2] at hBN
      have C := hide (HIH.out m' rfl (W.setCell ⟨gl, z, none⟩ (.int .i64 (y2 - 1))) z h2 (l2.set z (y2 - 1)) (HM.out.chg hSW2.bel HFK.out) (hP3.get 0 rfl) hz hI.lh (by rw [List.length_set]; exact hI.ll) hBN)
      have HST := hide (fun h9 l9 => hI.step (h2 := h9) (l2 := l9) HV.out hx hz)
      rw [hy2] at q1 lz1 lz2 HST
      have HP3 := hide hP3
      have hglz := hSW.hi 0 rfl gl (trIt_fp.2 (.inr rfl))
      clear hx hpre hlen hI hP2 x0 x1 hSW hMW d1 p1 p4 hP3 hSW2 r1 r4 hBN hy2 hS2 hM2 c2 c3 c4 c5 f1 f2 b1 b2 b3 b4 k2 k3 k5 d4 e0 had hlen4
      gi_wp2_with (refine ⟨trivial, ?_⟩; gi_at_call 70; (with_reducible refine (CallsIn.inRound lo (callsIn_wide.2 C.out)).mono ?_); rintro e w5 ⟨s5, ⟨v5, rfl⟩, h12, h3⟩; have H12 := hide h12; have H3 := hide h3; clear h12 h3)
      exact ⟨s5, HST.out _ _ H12.out.1 H12.out.2, HP3.out.call 0 rfl H3.out⟩
    case done =>
      rintro Dd ⟨h2, l2⟩ W hD hI hP2 hK
      dsimp only at hI
      rw [← HFI.out] at hI
      have hfin := hide hI.done
      have hCL : Colls w.heap.size W [{ target := .collected Dd, args := #[] }] := ⟨Dd, rfl, by simp at hD; omega, hK, by simp, trivial⟩
      have HSW := hide (hS2.call 0 rfl hP2)
      gi_wp2
      refine collsOff (B := w.heap.size) (u := .returning) (by simp) _ _ hCL ?_
      intro w' c1 c2 c3 c4 c5 c6
      have hSw := (HSW.out.sub (l := [trIt gh gl nO (h2, l2)]) (by simp)).closed (B := w.heap.size) (fun i hi => by
        obtain rfl : i = _ := by simpa using hi
        exact trIt_tame _ _ _ _ _) (Nat.le_refl _) c1 c2 c3 c4 c5 c6
      exact ⟨_, results_none rfl _ _ _, (h2, l2), ⟨_, rfl⟩, hfin.out, hSw⟩
theorem takeT_any (Bt gh gl : Nat) (AO AR : Option Addr) (nO cO nR cR : Nat) (obs : List Ob) (gs : List (List Val)) (h3 : obs.map Ob.fields = gs) (hfl : ∀ o ∈ obs, o.n ≤ 4) (hn : nO ≤ 24) (hv : ∀ x : Int, ValsOk nO (fieldsI gs x)) (hf4 : ∀ x : Int, (fieldsI gs x).length ≤ 4) (m : Nat) : TakeC Bt gh gl AO AR nO cO nR cR obs gs m := by
  induction m with
  | zero => exact take_step Bt gh gl AO AR nO cO nR cR obs gs h3 hfl hn hv hf4 0 (fun k h => by omega)
  | succ m ih => exact take_step Bt gh gl AO AR nO cO nR cR obs gs h3 hfl hn hv hf4 (m + 1) (fun k h => by obtain rfl : m = k := (by omega); exact ih)

/-! ### What is kept. -/
def keIt (gh n : Nat) (h : List Int) : Item := rowI 3 1 (some ⟨gh, 0, none⟩) n n (ints h)
theorem keIt_fp {gh n : Nat} {h : List Int} {k : Nat} : (keIt gh n h).fp k ↔ k = gh := by
  simp only [keIt, rowI, Value.ownBlock]
  constructor
  · intro h; simpa using h.symm
  · intro h; simp [h]
def KeepC (Bt gh gl : Nat) (AO AR : Option Addr) (nO cO nR cR : Nat) (obs : List Ob) (gs : List (List Val)) (m : Nat) : Prop :=
  ∀ (w : World) (i : Nat) (h : List Int), TrM Bt gh gl AO AR nO cO nR cR obs w → (keIt gh nO h).P w → i < nO → h.length = nO → Trn nO h ≤ m →
    Calls Try.prog 71 #[.pointer (some ⟨Bt, 0, none⟩), .int .i64 i] w (RetS (keIt gh nO) (fun s => Kp gs nO (fun x => h.getD i 0 = 1 ∧ Star gs nO i x) h s ∧ s.getD i 0 ≠ 1) (keIt gh nO h).fp w)

set_option maxRecDepth 100000 in
set_option maxHeartbeats 4000000 in
theorem keep_step (Bt gh gl : Nat) (AO AR : Option Addr) (nO cO nR cR : Nat) (obs : List Ob) (gs : List (List Val)) (h3 : obs.map Ob.fields = gs) (hfl : ∀ o ∈ obs, o.n ≤ 4) (hv : ∀ x : Int, ValsOk nO (fieldsI gs x)) (m : Nat) (ih : ∀ k, m = k + 1 → KeepC Bt gh gl AO AR nO cO nR cR obs gs k) : KeepC Bt gh gl AO AR nO cO nR cR obs gs m := by
  intro w i h hM hP hi hhl hB
  obtain ⟨F, hF⟩ : ∃ F, (keIt gh nO h).fp = F := ⟨_, rfl⟩
  have hFk : ∀ k, F k → k = gh ∨ k = gl := fun k hk => by rw [← hF] at hk; exact .inl (keIt_fp.1 hk)
  have hS0 := (Sep.start hP).blkAt 95 #[.pointer (some ⟨Bt, 0, none⟩)] (g := w.heap.size) rfl
  rw [hF] at hS0 ⊢
  obtain ⟨c1, c2, c3⟩ := (hM.chg hS0.bel hFk).b.rules
  have c4 : (w.alloc (.cells #[.pointer (some ⟨Bt, 0, none⟩)] 95)).cell? ⟨Bt, 0, none⟩ = some (.slice AO nO cO) := (c1 0).trans rfl
  have c5 : (w.alloc (.cells #[.pointer (some ⟨Bt, 0, none⟩)] 95)).cell? ⟨Bt, 2, none⟩ = some (.slice (some ⟨gh, 0, none⟩) nO nO) := (c1 2).trans rfl
  obtain ⟨f1, f2⟩ := row_int (hS0.get 0 rfl) i hi
  obtain ⟨b1, b2, b3, b4⟩ := hS0.rules 1 (g := w.heap.size) (t := 95) rfl
  have HFK := hide hFk
  have HM := hide hM
  have HB := hide hB
  have HHL := hide hhl
  have HS0 := hide hS0
  have HV := hide hv
  have HIH := hide ih
  have H3 := hide h3
  have HFL := hide hfl
  clear hF hFk hP hM hB hhl hS0 hv ih h3 hfl c1
  by_cases hone : h.getD i 0 = 1
  · rw [hone] at f1
    obtain ⟨m', hm'⟩ : ∃ m', m = m' + 1 := ⟨m - 1, by have := Trn_pos hi hone; have := HB.out; omega⟩
    subst hm'
    have hS1 := HS0.out.store 0 (g := gh) rfl i (.int .i64 2)
    rw [ints_set_] at hS1
    obtain ⟨k1, k2, k3, k4⟩ := hS1.rules 1 (g := w.heap.size) (t := 95) rfl
    have k5 := k1 0
    have hM1 := HM.out.chg hS1.bel HFK.out
    obtain ⟨d1, d2, d3⟩ := hM1.b.rules
    have d4 := (d1 0).trans (show _ = some (.slice AO nO cO) from rfl)
    obtain ⟨ad, o, hAO, _, had, e0, hrd, hfi, ho4, hofl⟩ := ob_at hM1.o H3.out HFL.out hi
    have HTL := hide (KpL.start (gs := gs) HHL.out hi hone)
    have HNI := hide hone
    have HS1 := hide hS1
    have HRD := hide hrd
    have HFI := hide hfi
    have hbi := HS0.out.hi 0 rfl gh (keIt_fp.2 rfl)
    clear hone hS1 hM1 hrd hfi d1 k1 k4
    subst hAO
    refine (callsIn_wide (n := 10)).1 ?_
    refine callsIn_of_wp_calm Try.func71 rfl trivial ?_ rfl
    simp only [Try.ntmps71, List.size_toArray, List.length_cons, List.length_nil, Nat.reduceAdd, Nat.reduceSub, Array.replicate_succ, Array.replicate_zero, List.push_toArray, List.append_toArray, List.nil_append, List.cons_append]
    gi_wp2_with (refine ⟨trivial, ?_⟩; gi_at_call 69; refine (targets_in Fence.wide 9 trivial rfl _ _ _ _).mono ?_; rintro e w2 ⟨rfl, rfl⟩)
    have hS2 := HS1.out.blkAt 23 #[.slice o.A o.n o.c] (g := w.heap.size + 1) (by simp)
    have hM2 := HM.out.chg hS2.bel HFK.out
    refine wpIn_tgt (n := 10) rfl (by omega) trivial (w.heap.size + 1) (by rfl) (by rfl) (keIt gh nO) (h.set i 2) (vs := o.fields) (by omega) (hS2.get 2 rfl) (hS2.other (a := 2) (b := 0) rfl rfl (by omega) _ rfl)
      ((HRD.out.below ((Below.refl _ _).alloc (Nat.le_refl _) _)).more (fun g _ hg hf => hg.1 (keIt_fp.1 hf)))
      (fun pre s => KpL gs nO i pre h s) (fun _ _ _ => False) (fun s => Tame.row _ _ _ _ _ _ _) HTL.out (hS2.get 0 rfl) ?a1 ?assign ?body ?done ?stop
    case assign =>
      intro l x W K hK
      gi_wp2
      exact hK
    case stop =>
      rintro Dd c pre s W hD hpre hF
      exact hF.elim
    case body =>
      rintro lo pre x h2 W hx hpre hlen hI hP2
      rw [← HFI.out] at hx hlen
      obtain ⟨x0, x1⟩ := HV.out _ _ (tgts_mem.1 hx) rfl
      dsimp only at x0 x1
      obtain ⟨z, rfl⟩ := int_nat x0
      have hz : z < nO := by omega
      have hSW := hS2.call 0 rfl hP2
      obtain ⟨p1, p2, p3, p4⟩ := hSW.rules 1 (g := w.heap.size) (t := 95) rfl
      have p5 := p1 0
      have C := hide (HIH.out m' rfl W z h2 (HM.out.chg hSW.bel HFK.out) (hP2.get 0 rfl) hz hI.lh (hI.trn HHL.out hi HNI.out HB.out))
      have HST := hide (fun h9 => hI.step (h2 := h9) HV.out hi hx hz (fun y hy => by rw [HFI.out]; exact hpre y hy))
      have HP3 := hide (Sep.start (hP2.get 0 rfl))
      clear hx hpre hlen hI hP2 x0 x1 hSW p1 p4 hS2 hM2 c2 c3 c4 c5 f1 f2 b1 b2 b3 b4 k2 k3 k5 d4 e0 had
      gi_wp2_with (refine ⟨trivial, ?_⟩; gi_at_call 71; (with_reducible refine (CallsIn.inRound lo (callsIn_wide.2 C.out)).mono ?_); rintro e w5 ⟨s5, ⟨v5, rfl⟩, h12, h3⟩; have H12 := hide h12; have H3 := hide h3; clear h12 h3)
      exact ⟨s5, HST.out _ (H12.out.1.imp fun _ h => h.2) H12.out.2, HP3.out.call 0 rfl H3.out⟩
    case done =>
      rintro Dd h2 W hD hI hP2 hK
      rw [← HFI.out] at hI
      have hfin := hide (show Kp gs nO (fun x => h.getD i 0 = 1 ∧ Star gs nO i x) h h2 ∧ h2.getD i 0 ≠ 1 from ⟨hI.done.1.imp fun _ h => ⟨HNI.out, h⟩, hI.done.2⟩)
      have hCL : Colls w.heap.size W [{ target := .collected Dd, args := #[] }] := ⟨Dd, rfl, by simp at hD; omega, hK, by simp, trivial⟩
      have HSW := hide (hS2.call 0 rfl hP2)
      gi_wp2
      refine collsOff (B := w.heap.size) (u := .returning) (by simp) _ _ hCL ?_
      intro w' c1 c2 c3 c4 c5 c6
      have hSw := (HSW.out.sub (l := [keIt gh nO h2]) (by simp)).closed (B := w.heap.size) (fun i hi => by
        obtain rfl : i = _ := by simpa using hi
        exact Tame.row _ _ _ _ _ _ _) (Nat.le_refl _) c1 c2 c3 c4 c5 c6
      exact ⟨_, results_none rfl _ _ _, h2, ⟨_, rfl⟩, hfin.out, hSw⟩
  · obtain ⟨y, hy⟩ : ∃ y, h.getD i 0 = y := ⟨_, rfl⟩
    rw [hy] at f1
    have y1 : (y != 1) = true := by rw [bne_iff_ne, ← hy]; exact hone
    have HT := hide (show Kp gs nO (fun x => h.getD i 0 = 1 ∧ Star gs nO i x) h h from Kp.refl HHL.out)
    have HO := hide hone
    clear hone hy
    go_enter Try.func71, Try.ntmps71
    go_wp2_with fail
    go_end0
    exact ⟨h, ⟨_, rfl⟩, ⟨HT.out, HO.out⟩, HS0.out.sub (by simp)⟩
theorem keepT_any (Bt gh gl : Nat) (AO AR : Option Addr) (nO cO nR cR : Nat) (obs : List Ob) (gs : List (List Val)) (h3 : obs.map Ob.fields = gs) (hfl : ∀ o ∈ obs, o.n ≤ 4) (hv : ∀ x : Int, ValsOk nO (fieldsI gs x)) (m : Nat) : KeepC Bt gh gl AO AR nO cO nR cR obs gs m := by
  induction m with
  | zero => exact keep_step Bt gh gl AO AR nO cO nR cR obs gs h3 hfl hv 0 (fun k h => by omega)
  | succ m ih => exact keep_step Bt gh gl AO AR nO cO nR cR obs gs h3 hfl hv (m + 1) (fun k h => by obtain rfl : m = k := (by omega); exact ih)
end Go.Proofs.Ytaajkldhnjoicaa

namespace Go.Proofs.Ytaajkldhnjoicaa
open Go.RowKit Go.Shelf
attribute [local go_sem] Oper.semAt_some

/-- One more at each place. -/
def addC (l : List Int) (xs : List Int) : List Int := xs.foldl (fun l x => l.set x.toNat (l.getD x.toNat 0 + 1)) l
theorem addC_snoc (l xs : List Int) (x : Int) : addC l (xs ++ [x]) = (addC l xs).set x.toNat ((addC l xs).getD x.toNat 0 + 1) := by unfold addC; rw [List.foldl_append]; rfl
theorem addC_len (l xs : List Int) : (addC l xs).length = l.length := by
  unfold addC
  induction xs generalizing l with
  | nil => rfl
  | cons x xs ih => rw [List.foldl_cons, ih, List.length_set]
theorem cnt_cons (x : Int) (xs : List Int) (j : Int) : cnt (x :: xs) j = cnt xs j + if x = j then 1 else 0 := by
  unfold cnt
  rw [List.count_cons]
  by_cases e : x = j
  · subst e; simp
  · simp [e]
theorem addC_get {n : Nat} {l xs : List Int} (hl : l.length = n) (hx : ∀ x ∈ xs, 0 ≤ x ∧ x < (n : Int)) (j : Nat) : (addC l xs).getD j 0 = l.getD j 0 + cnt xs j := by
  induction xs generalizing l with
  | nil => simp [addC, cnt]
  | cons x xs ih =>
    have h1 : addC l (x :: xs) = addC (l.set x.toNat (l.getD x.toNat 0 + 1)) xs := rfl
    have hr := hx x (by simp)
    rw [h1, ih (by rw [List.length_set]; exact hl) (fun y hy => hx y (by simp [hy])), getD_set_ (by omega), cnt_cons]
    by_cases e : j = x.toNat
    · subst e
      rw [if_pos rfl, if_pos (by omega)]; omega
    · rw [if_neg e, if_neg (by omega)]; omega
theorem tgts_rngs {n : Nat} {vs : List Val} (h : ValsOk n vs) : ∀ x ∈ tgts vs, 0 ≤ x ∧ x < (n : Int) := fun x hx => by
  have := h _ (tgts_mem.1 hx) rfl
  exact this

set_option maxRecDepth 100000 in
set_option maxHeartbeats 4000000 in
theorem count_any (w : World) (Bv Bt gh gl : Nat) (AO AR A : Option Addr) (nO cO nR cR n c : Nat) (obs : List Ob) (vs : List Val) (l : List Int) (hM : TrM Bt gh gl AO AR nO cO nR cR obs w) (hV : Blk w Bv 95 #[.pointer (some ⟨Bt, 0, none⟩)]) (hgv : Bv ≠ gl) (hP : (keIt gl nO l).P w)
    (hl : l.length = nO) (hn : n ≤ 100) (hvs : ValsOk nO vs) (hR : Rd w (fun k => k ≠ gl) 2 A n (vals vs)) (hb : ∀ j : Nat, j < nO → 0 ≤ l.getD j 0 ∧ l.getD j 0 ≤ 1000) :
    Calls Try.prog 68 #[.slice A n c, .pointer (some ⟨Bv, 0, none⟩)] w (RetS (keIt gl nO) (fun s => s = addC l (tgts vs)) (keIt gl nO l).fp w) := by
  obtain ⟨F, hF⟩ : ∃ F, (keIt gl nO l).fp = F := ⟨_, rfl⟩
  have hFk : ∀ k, F k → k = gh ∨ k = gl := fun k hk => by rw [← hF] at hk; exact .inr (keIt_fp.1 hk)
  have hS0 := Sep.start hP
  rw [hF] at hS0 ⊢
  have HV := hide hV
  have HM := hide hM
  have HL := hide hl
  have HVS := hide hvs
  have HB := hide hb
  have HR := hide hR
  have HS0 := hide hS0
  have HFF := hide hF
  have HFK := hide hFk
  clear hFk hV hM hl hvs hb hR hS0 hF hP
  refine (callsIn_wide (n := 10)).1 ?_
  refine callsIn_of_wp_calm Try.func68 rfl trivial ?_ rfl
  simp only [Try.ntmps68, List.size_toArray, List.length_cons, List.length_nil, Nat.reduceAdd, Nat.reduceSub, Array.replicate_succ, Array.replicate_zero, List.push_toArray, List.append_toArray, List.nil_append, List.cons_append]
  gi_wp2_with (refine ⟨trivial, ?_⟩; gi_at_call 69; refine (targets_in Fence.wide 9 trivial rfl _ _ _ _).mono ?_; rintro e w2 ⟨rfl, rfl⟩)
  have hS2 := HS0.out.blkAt 23 #[.slice A n c] (g := w.heap.size) rfl
  refine wpIn_tgt (n := 10) rfl (by omega) trivial w.heap.size (by rfl) (by rfl) (keIt gl nO) l (vs := vs) (by omega) (hS2.get 1 rfl) (hS2.other (a := 1) (b := 0) rfl rfl (by omega) _ rfl)
      ((HR.out.below ((Below.refl _ _).alloc (Nat.le_refl _) _)).more (fun g _ hg hf => hg (keIt_fp.1 hf)))
      (fun pre s => s = addC l pre ∧ ∀ y ∈ pre, y ∈ tgts vs) (fun _ _ _ => False) (fun s => Tame.row _ _ _ _ _ _ _) ⟨rfl, by simp⟩ (hS2.get 0 rfl) ?a1 ?assign ?body ?done ?stop
  case assign =>
    intro l x W K hK
    gi_wp2
    exact hK
  case stop =>
    rintro Dd c pre s W hD hpre hF
    exact hF.elim
  case body =>
    rintro lo pre x h2 W hx hpre hlen ⟨hI, hI2⟩ hP2
    obtain ⟨x0, x1⟩ := tgts_rngs HVS.out x hx
    obtain ⟨z, rfl⟩ := int_nat x0
    have hz : z < nO := by omega
    have hln : h2.length = nO := by rw [hI, addC_len]; exact HL.out
    have hSW := hS2.call 0 rfl hP2
    have hMW := HM.out.chg hSW.bel HFK.out
    obtain ⟨d1, d2, d3⟩ := hMW.b.rules
    have d5 := (d1 3).trans (show _ = some (.slice (some ⟨gl, 0, none⟩) nO nO) from rfl)
    obtain ⟨e1, e2, e3⟩ := (HV.out.chg hSW.bel (fun hf => by rw [← HFF.out] at hf; exact hgv (keIt_fp.1 hf))).rules
    have e4 := e1 0
    obtain ⟨q1, q2⟩ := row_int (hSW.get 0 rfl) z hz
    have hval : h2.getD z 0 = l.getD z 0 + cnt pre z := by rw [hI]; exact addC_get HL.out (fun y hy => tgts_rngs HVS.out y (hI2 y hy)) z
    have hbz := HB.out z hz
    have hc1 := cnt_le pre z
    have hc2 := cnt_nonneg pre z
    have hvl : vs.length = n := by have := HR.out.1; rw [vals_length] at this; omega
    have hvl2 := tgts_len vs
    obtain ⟨y2, hy2⟩ : ∃ y, h2.getD z 0 = y := ⟨_, rfl⟩
    have hP3 := (Sep.start (hP2.get 0 rfl)).store 0 (g := gl) rfl z (.int .i64 (y2 + 1))
    rw [ints_set_] at hP3
    have HST := hide (show h2.set z (y2 + 1) = addC l (pre ++ [(z : Int)]) from by rw [addC_snoc, ← hI, show ((z : Int)).toNat = z from by omega, hy2])
    have HPRE := hide (show ∀ y ∈ pre ++ [(z : Int)], y ∈ tgts vs from fun y hy => by
      rcases List.mem_append.1 hy with h | h
      · exact hI2 y h
      · rw [show y = (z : Int) from by simpa using h]; exact hx)
    have hy3 : 0 ≤ y2 := by omega
    have hy4 : y2 ≤ 1100 := by omega
    rw [hy2] at q1
    have HP3 := hide hP3
    have hglz := hSW.hi 0 rfl gl (keIt_fp.2 rfl)
    clear hx hpre hlen hI hI2 hP2 x0 x1 hSW hMW d1 e1 hP3 hval hbz hc1 hc2 hvl hvl2 hy2 hS2 hln
    gi_wp2
    exact ⟨_, ⟨HST.out, HPRE.out⟩, HP3.out⟩
  case done =>
    rintro Dd h2 W hD ⟨hI, _⟩ hP2 hK
    have hfin := hide hI
    have hCL : Colls w.heap.size W [{ target := .collected Dd, args := #[] }] := ⟨Dd, rfl, by simp at hD; omega, hK, by simp, trivial⟩
    have HSW := hide (hS2.call 0 rfl hP2)
    clear hI hS2 hP2
    gi_wp2
    refine collsOff (B := w.heap.size) (u := .returning) (by simp) _ _ hCL ?_
    intro w' c1 c2 c3 c4 c5 c6
    have hSw := (HSW.out.sub (l := [keIt gl nO h2]) (by simp)).closed (B := w.heap.size) (fun i hi => by
      obtain rfl : i = _ := by simpa using hi
      exact Tame.row _ _ _ _ _ _ _) (Nat.le_refl _) c1 c2 c3 c4 c5 c6
    exact ⟨_, results_none rfl _ _ _, h2, ⟨_, rfl⟩, hfin.out, hSw⟩
end Go.Proofs.Ytaajkldhnjoicaa

namespace Go.Proofs.Ytaajkldhnjoicaa

/-- What the counts are after so many objects. -/
structure CntI (gs : List (List Val)) (vs : List Val) (n k : Nat) (l : List Int) : Prop where
  len : l.length = n
  at_ : ∀ j : Nat, j < n → l.getD j 0 = cnt (tgts vs) j + sumN (fun x => cnt (tgts (fieldsI gs (x : Int))) j) k
section
variable {gs : List (List Val)} {vs : List Val} {n : Nat}
theorem zeros_get (n j : Nat) : (List.replicate n (0 : Int)).getD j 0 = 0 := by
  rw [List.getD_eq_getElem?_getD, List.getElem?_replicate]
  split <;> rfl
theorem CntI.start (hv : ValsOk n vs) : CntI gs vs n 0 (addC (List.replicate n 0) (tgts vs)) :=
  ⟨by rw [addC_len]; simp, fun j _ => by rw [addC_get (n := n) (by simp) (tgts_rngs hv), zeros_get]; simp [sumN]⟩
theorem CntI.step {k : Nat} {l : List Int} (a : CntI gs vs n k l) (hv : ValsOk n (fieldsI gs (k : Int))) : CntI gs vs n (k + 1) (addC l (tgts (fieldsI gs (k : Int)))) :=
  ⟨by rw [addC_len]; exact a.len, fun j hj => by rw [addC_get a.len (tgts_rngs hv), a.at_ j hj, Int.add_assoc]; rfl⟩
theorem CntI.bnd {k : Nat} {l : List Int} (a : CntI gs vs n k l) (hk : k ≤ n) (hn : n ≤ 24) (hvl : vs.length ≤ 8) (hf : ∀ x : Int, (fieldsI gs x).length ≤ 4) : ∀ j : Nat, j < n → 0 ≤ l.getD j 0 ∧ l.getD j 0 ≤ 1000 := fun j hj => by
  rw [a.at_ j hj]
  have h1 := cnt_nonneg (tgts vs) j
  have h2 := cnt_le (tgts vs) j
  have h3 := tgts_len vs
  have h4 : 0 ≤ sumN (fun x => cnt (tgts (fieldsI gs (x : Int))) j) k := sumN_nonneg fun x _ => cnt_nonneg _ _
  have h5 : sumN (fun x => cnt (tgts (fieldsI gs (x : Int))) j) k ≤ 4 * (k : Int) := sumN_le 4 fun x _ => by
    have h1 := cnt_le (tgts (fieldsI gs (x : Int))) j
    have h2 := tgts_len (fieldsI gs (x : Int))
    have h3 := hf x
    omega
  omega
theorem SumT_zeros (j : Int) : SumT gs n (List.replicate n 0) j = 0 := by
  unfold SumT
  have : ∀ m, sumN (fun x => if (List.replicate n (0 : Int)).getD x 0 = 1 then cnt (tgts (fieldsI gs (x : Int))) j else 0) m = 0 := by
    intro m
    induction m with
    | zero => rfl
    | succ m ih => unfold sumN; rw [ih, zeros_get]; rfl
  exact this n
theorem TkB.start {l : List Int} (hn : n ≤ 24) (hb : ∀ j : Nat, j < n → 0 ≤ l.getD j 0 ∧ l.getD j 0 ≤ 1000) : TkB gs n 24 (List.replicate n 0) l := by
  refine ⟨?_, fun j hj => ?_, fun j hj => (hb j hj).2⟩
  · have : Unt n (List.replicate n 0) ≤ 1 * (n : Int) := sumN_le 1 fun x _ => by split <;> omega
    omega
  · rw [SumT_zeros]; have := hb j hj; omega
/-- After so many of those that are tried. -/
structure TkA (gs : List (List Val)) (n : Nat) (fs : List Int) (l0 h l : List Int) : Prop where
  tk : Tk gs n (fun x => ∃ i ∈ fs, Star gs n i x) (List.replicate n 0) l0 h l
  seen : ∀ i ∈ fs, h.getD i.toNat 0 = 1
theorem TkA.start {l0 : List Int} (hl : l0.length = n) : TkA gs n [] l0 (List.replicate n 0) l0 := ⟨Tk.refl (by simp) hl, by simp⟩
theorem TkA.step {fs : List Int} {l0 h l h2 l2 : List Int} {z : Nat} (a : TkA gs n fs l0 h l) (hv : ∀ x : Int, ValsOk n (fieldsI gs x)) (hz : z < n) (hfs : ∀ x ∈ fs, 0 ≤ x ∧ x < (n : Int)) (b : Tk gs n (Star gs n z) h l h2 l2) (hs : h2.getD z 0 = 1) : TkA gs n (fs ++ [(z : Int)]) l0 h2 l2 :=
  ⟨a.tk.trans b hv (fun x ⟨i, hi, h⟩ => ⟨i, by simp [hi], h⟩) (fun x h => ⟨z, by simp, h⟩), fun i hi => by
    rcases List.mem_append.1 hi with h1 | h1
    · have := hfs i h1; exact b.mono _ (by omega) (a.seen i h1)
    · rw [show i = (z : Int) from by simpa using h1]; exact hs⟩
/-- After so many of those that may be kept. -/
structure KpA (gs : List (List Val)) (n k : Nat) (l h0 h : List Int) : Prop where
  kp : Kp gs n (fun x => ∃ i : Nat, i < k ∧ 0 < l.getD i 0 ∧ h0.getD i 0 = 1 ∧ Star gs n i x) h0 h
  seen : ∀ i : Nat, i < k → 0 < l.getD i 0 → h.getD i 0 ≠ 1
theorem KpA.start {l h : List Int} (hh : h.length = n) : KpA gs n 0 l h h := ⟨Kp.refl hh, fun i hi => by omega⟩
theorem KpA.skip {k : Nat} {l h0 h : List Int} (a : KpA gs n k l h0 h) (hk : ¬ 0 < l.getD k 0) : KpA gs n (k + 1) l h0 h :=
  ⟨a.kp.imp fun x ⟨i, h1, h2⟩ => ⟨i, by omega, h2⟩, fun i hi h => by
    by_cases e : i = k
    · subst e; exact absurd h hk
    · exact a.seen i (by omega) h⟩
theorem KpA.step {k : Nat} {l h0 h h2 : List Int} (a : KpA gs n k l h0 h) (hv : ∀ x : Int, ValsOk n (fieldsI gs x)) (hkn : k < n) (hk : 0 < l.getD k 0) (b : Kp gs n (fun x => h.getD k 0 = 1 ∧ Star gs n k x) h h2) (hs : h2.getD k 0 ≠ 1) : KpA gs n (k + 1) l h0 h2 := by
  refine ⟨a.kp.trans b hv (fun x ⟨i, h1, h2⟩ => ⟨i, by omega, h2⟩) (fun x h1 => ⟨k, by omega, hk, ?_, h1.2⟩), fun i hi h => ?_⟩
  · rcases a.kp.same k hkn with h3 | ⟨h3, _⟩
    · rw [← h3]; exact h1.1
    · exact h3
  · by_cases e : i = k
    · subst e; exact hs
    · exact b.off (by omega) (a.seen i (by omega) h)

/-- What is in, and what is first held. -/
def TrIn (gs : List (List Val)) (n : Nat) (fs : List Int) (x : Int) : Prop := ∃ i ∈ fs, Star gs n i x
def TrFst (gs : List (List Val)) (vs : List Val) (n : Nat) (fs : List Int) (j : Int) : Prop := (true, j) ∈ vs ∨ ∃ i : Nat, i < n ∧ ¬ TrIn gs n fs i ∧ (true, j) ∈ fieldsI gs (i : Int)
def TrHeld (gs : List (List Val)) (vs : List Val) (n : Nat) (fs : List Int) (x : Int) : Prop := ∃ j : Nat, j < n ∧ TrFst gs vs n fs j ∧ TrIn gs n fs j ∧ Star gs n j x
theorem trial_fin {fs : List Int} {l0 h l h2 : List Int} (hv : ∀ x : Int, ValsOk n (fieldsI gs x)) (hfs : ∀ x ∈ fs, 0 ≤ x ∧ x < (n : Int)) (c : CntI gs vs n n l0) (a : TkA gs n fs l0 h l) (b : KpA gs n n l h h2) (x : Nat) (hx : x < n) : h2.getD x 0 = 1 ↔ TrIn gs n fs x ∧ ¬ TrHeld gs vs n fs x := by
  have hclos : ∀ p q : Int, (0 ≤ p ∧ p < (n : Int) ∧ h.getD p.toNat 0 = 1) → (true, q) ∈ fieldsI gs p → (0 ≤ q ∧ q < (n : Int) ∧ h.getD q.toNat 0 = 1) := fun p q ⟨p0, p1, p2⟩ hq => by
    have hr := hv _ _ hq rfl
    dsimp only at hr
    have h1 := a.tk.clos p.toNat (by omega) p2 (by rw [zeros_get]; omega) q (by rw [show ((p.toNat : Nat) : Int) = p from by omega]; exact tgts_mem.2 hq)
    exact ⟨hr.1, hr.2, h1⟩
  have hin : ∀ y : Nat, y < n → (h.getD y 0 = 1 ↔ TrIn gs n fs y) := fun y hy => by
    constructor
    · intro h1
      rcases a.tk.only y hy h1 with h2 | h2
      · rw [zeros_get] at h2; omega
      · exact h2
    · rintro ⟨i, hi, hs⟩
      have h1 := hs.clos (Q := fun p => 0 ≤ p ∧ p < (n : Int) ∧ h.getD p.toNat 0 = 1) hclos ⟨(hfs i hi).1, (hfs i hi).2, a.seen i hi⟩
      exact h1.2.2
  have hpos : ∀ j : Nat, j < n → (0 < l.getD j 0 ↔ TrFst gs vs n fs j) := fun j hj => by
    have h1 := a.tk.phi j hj
    rw [SumT_zeros, c.at_ j hj] at h1
    have h2 : l.getD j 0 = cnt (tgts vs) j + sumN (fun x => cnt (tgts (fieldsI gs (x : Int))) j - (if h.getD x 0 = 1 then cnt (tgts (fieldsI gs (x : Int))) j else 0)) n := by
      rw [sumN_sub]
      unfold SumT at h1
      omega
    have h3 : ∀ x, x < n → 0 ≤ cnt (tgts (fieldsI gs ((x : Nat) : Int))) j - (if h.getD x 0 = 1 then cnt (tgts (fieldsI gs (x : Int))) j else 0) := fun x _ => by
      have := cnt_nonneg (tgts (fieldsI gs (x : Int))) j
      split <;> omega
    have h4 := cnt_nonneg (tgts vs) j
    have h5 := sumN_nonneg h3
    have h6 := sumN_pos h3
    have h7 := cnt_pos (tgts vs) j
    rw [h2]
    constructor
    · intro hp
      by_cases e : 0 < cnt (tgts vs) j
      · exact .inl (tgts_mem.1 (h7.1 e))
      · obtain ⟨i, hi, hc⟩ := h6.1 (by omega)
        by_cases e2 : h.getD i 0 = 1
        · rw [if_pos e2] at hc; omega
        · rw [if_neg e2] at hc
          exact .inr ⟨i, hi, fun hI => e2 ((hin i hi).2 hI), tgts_mem.1 ((cnt_pos _ _).1 (by omega))⟩
    · rintro (hp | ⟨i, hi, hI, hr⟩)
      · have := h7.2 (tgts_mem.2 hp); omega
      · have e2 : h.getD i 0 ≠ 1 := fun e => hI ((hin i hi).1 e)
        have := h6.2 ⟨i, hi, by rw [if_neg e2]; have := (cnt_pos (tgts (fieldsI gs (i : Int))) (j : Int)).2 (tgts_mem.2 hr); omega⟩
        omega
  constructor
  · intro h1
    have h3 : h.getD x 0 = 1 := by
      rcases b.kp.same x hx with h4 | ⟨h4, _⟩
      · rw [← h4]; exact h1
      · exact h4
    refine ⟨(hin x hx).1 h3, fun ⟨j, hj, hf, hi, hs⟩ => ?_⟩
    have h5 := (hin j hj).2 hi
    have h6 := b.seen j hj ((hpos j hj).2 hf)
    have h7 : h2.getD j 0 = 2 := by
      rcases b.kp.same j hj with h8 | ⟨_, h8, _⟩
      · omega
      · exact h8
    have h9 := hs.clos (Q := fun p => (0 ≤ p ∧ p < (n : Int) ∧ h.getD p.toNat 0 = 1) ∧ h2.getD p.toNat 0 = 2) (fun p q ⟨hp, hp2⟩ hq => by
      have hQ := hclos p q hp hq
      obtain ⟨p0, p1, p2⟩ := hp
      have h10 := b.kp.clos p.toNat (by omega) p2 hp2 q (by rw [show ((p.toNat : Nat) : Int) = p from by omega]; exact tgts_mem.2 hq)
      refine ⟨hQ, ?_⟩
      rcases b.kp.same q.toNat (by omega) with h11 | ⟨_, h11, _⟩
      · rw [hQ.2.2] at h11; exact absurd h11 h10
      · exact h11) ⟨⟨by omega, by omega, by simpa using h5⟩, by simpa using h7⟩
    have h12 := h9.2
    rw [show ((x : Int)).toNat = x from by omega] at h12
    omega
  · rintro ⟨hI, hH⟩
    have h3 := (hin x hx).2 hI
    rcases b.kp.same x hx with h4 | ⟨_, _, i, h5, h6, h7, h8⟩
    · rw [h4]; exact h3
    · exact (hH ⟨i, h5, (hpos i h5).1 h6, (hin i h5).1 h7, h8⟩).elim

/-- Those that have a mark, in order. -/
def ones (v : Int) (h : List Int) (k : Nat) : List Int := ((List.range k).filter fun i => h.getD i 0 == v).map fun (i : Nat) => (i : Int)
theorem ones_succ (v : Int) (h : List Int) (k : Nat) : ones v h (k + 1) = ones v h k ++ if h.getD k 0 = v then [(k : Int)] else [] := by
  unfold ones
  rw [List.range_succ, List.filter_append, List.map_append]
  congr 1
  by_cases e : h.getD k 0 = v
  · rw [if_pos e, List.filter_cons_of_pos (by simpa using e)]; rfl
  · rw [if_neg e, List.filter_cons_of_neg (by simpa using e)]; rfl
def trues (l : List Bool) (k : Nat) : List Int := ((List.range k).filter fun i => l.getD i false).map fun (i : Nat) => (i : Int)
theorem trues_succ (l : List Bool) (k : Nat) : trues l (k + 1) = trues l k ++ if l.getD k false = true then [(k : Int)] else [] := by
  unfold trues
  rw [List.range_succ, List.filter_append, List.map_append]
  congr 1
  by_cases e : l.getD k false = true
  · rw [if_pos e, List.filter_cons_of_pos (by simpa using e)]; rfl
  · rw [if_neg e, List.filter_cons_of_neg (by simpa using e)]; rfl
theorem fields_le {m : Nat} (h : ∀ fs ∈ gs, fs.length ≤ m) (x : Int) : (fieldsI gs x).length ≤ m := by
  unfold fieldsI
  rw [List.getD_eq_getElem?_getD]
  rcases Nat.lt_or_ge x.toNat gs.length with h1 | h1
  · rw [List.getElem?_eq_getElem h1]; exact h _ (List.getElem_mem h1)
  · rw [List.getElem?_eq_none h1]; simp
end
end Go.Proofs.Ytaajkldhnjoicaa
