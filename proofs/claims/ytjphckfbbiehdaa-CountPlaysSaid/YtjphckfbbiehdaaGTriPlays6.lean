/- A memory with colours: from its parts; what the methods do, as the plain deeds say. A memory with colours: a script that may not be. The reference: two rows of counts are the same. -/
import Derived.Test.YtjphckfbbiehdaaGTriPlays5
import Derived.Test.YtjphckfbbiehdaaGIdealPlays17
import Derived.Test.YtjphckfbbiehdaaGIdealPlays16
set_option linter.unusedSimpArgs false
set_option linter.unusedVariables false
namespace Go.Proofs.Ytjphckfbbiehdaa
open Go.RowKit

def CoS.a (s : CoS) (regs : List Val) : CoA := ⟨regs, s.oj.abs, s.cols, s.gone⟩
theorem co_work_no {s : CoS} (regs : List Val) (h : greyF (thereL s.oj.ps) s.cols = -1) : coWork (s.a regs) = (⟨7, false, 0⟩, s.a regs) := by
  unfold coWork
  rw [show thereL (s.a regs).objs = thereL s.oj.ps from thereL_abs s.oj, show (s.a regs).cols = s.cols from rfl, if_pos h]
theorem co_work_yes {s : CoS} (regs : List Val) {i : Nat} {p : Po} (h : greyF (thereL s.oj.ps) s.cols = (i : Int)) (hp : s.oj.ps[i]? = some (some p)) : coWork (s.a regs) = (⟨0, false, 0⟩, (s.col ((shadeL s.cols p.o.fields).set i 2)).a regs) := by
  unfold coWork
  have hf : (s.a regs).fld i = some p.o.fields := by
    unfold CoA.fld CoS.a Oj.abs
    dsimp only
    rw [List.getElem?_map, hp]; rfl
  rw [show thereL (s.a regs).objs = thereL s.oj.ps from thereL_abs s.oj, show (s.a regs).cols = s.cols from rfl, h, if_neg (by omega), Int.toNat_natCast, hf]
  rfl
theorem co_sweep_no {s : CoS} (regs : List Val) (h : greyF (thereL s.oj.ps) (shadeL s.cols regs) ≠ -1) : coSweep (s.a regs) = (⟨8, false, 0⟩, (s.col (shadeL s.cols regs)).a regs) := by
  unfold coSweep
  rw [show thereL (s.a regs).objs = thereL s.oj.ps from thereL_abs s.oj, show (s.a regs).cols = s.cols from rfl, show (s.a regs).regs = regs from rfl, if_pos h]
  rfl
theorem co_sweep_yes {s s' : CoS} (regs : List Val) (h : greyF (thereL s.oj.ps) (shadeL s.cols regs) = -1) (h1 : s'.oj.abs = dropF s.oj.abs (whitesF (thereL s.oj.ps) (shadeL s.cols regs))) (h2 : s'.cols = beginC s.cols.length regs) (h3 : s'.gone = s.gone ++ whitesF (thereL s.oj.ps) (shadeL s.cols regs)) : coSweep (s.a regs) = (⟨0, false, 0⟩, s'.a regs) := by
  unfold coSweep
  rw [show thereL (s.a regs).objs = thereL s.oj.ps from thereL_abs s.oj, show (s.a regs).cols = s.cols from rfl, show (s.a regs).regs = regs from rfl, if_neg (by rw [h]; simp)]
  unfold CoS.a
  dsimp only
  rw [h1, h2, h3]
/-- A script's state, at each deed. -/
theorem co_at {q : Nat} (hq : q = 1 ∨ q = 2 ∨ q = 3) {σ : MSt} (hM : MOk σ) (ds : List DoV) (hn : σ.objs.length ≤ 24) (hd : ds.length ≤ 100) (k : Nat) (hk : k ≤ ds.length) :
    CoOk (coRun q (ds.take k) (co0 σ)).2 ∧ (coRun q (ds.take k) (co0 σ)).2.objs.length ≤ 24 + k ∧ (coRun q (ds.take k) (co0 σ)).1.length = k := by
  have h1 := rtRun_ok hq (ds.take k) (rt0_ok q hM (by omega)) (by rw [List.length_take]; show σ.objs.length + _ ≤ _; omega)
  rw [rt0_a] at h1
  obtain ⟨o1, o2, o3, o4⟩ := h1
  rw [o4]
  have hlt : (ds.take k).length = k := by rw [List.length_take]; omega
  refine ⟨o1.ok, ?_, by show (rtRun q (ds.take k) (rt0 σ)).1.length = k; rw [o3, hlt]⟩
  show (rtRun q (ds.take k) (rt0 σ)).2.a.objs.length ≤ _
  rw [o1.n]
  have h3 : (rt0 σ).σ.objs.length = σ.objs.length := rfl
  omega
theorem coRun_at (q : Nat) (ds : List DoV) (a : CoA) (k : Nat) (hk : k < ds.length) : coRun q (ds.take (k + 1)) a = ((coRun q (ds.take k) a).1 ++ [(coStep q ds[k] (coRun q (ds.take k) a).2).1], (coStep q ds[k] (coRun q (ds.take k) a).2).2) := by
  rw [List.take_succ_eq_append_getElem hk, coRun_snoc]
/-- The memory with the machine's block: from the parts, and back. -/
theorem cok_wholeL {b : BarK} {Bm Be : Nat} {t : CoT} {F : Nat → Prop} {W w : World} {L : List Item} (h : Sep F W w (coI Be b.bv t.s :: blkI Bm 113 (mcCells t.regs (.iface 210 (.pointer (some ⟨Be, 0, none⟩)))) :: L)) : Sep F W w ((coK b Bm Be).item t :: L) := by
  have h1 : Sep F W w (coR Be b.bv t.s ++ (blkI Bm 113 (mcCells t.regs (.iface 210 (.pointer (some ⟨Be, 0, none⟩)))) :: L)) := Sep.split h
  have h2 : Sep F W w ((coK b Bm Be).items t ++ L) := h1.perm (by
    show List.Perm _ ((blkI Bm 113 (mcCells t.regs (.iface 210 (.pointer (some ⟨Be, 0, none⟩)))) :: coR Be b.bv t.s) ++ L)
    have e : coR Be b.bv t.s ++ (blkI Bm 113 (mcCells t.regs (.iface 210 (.pointer (some ⟨Be, 0, none⟩)))) :: L) = (coR Be b.bv t.s ++ [blkI Bm 113 (mcCells t.regs (.iface 210 (.pointer (some ⟨Be, 0, none⟩))))]) ++ L := by simp
    rw [e]
    exact List.Perm.append_right L (List.perm_append_comm (l₂ := [_])))
  exact Sep.join (l := (coK b Bm Be).items t) h2
theorem cok_partL {b : BarK} {Bm Be : Nat} {t : CoT} {F : Nat → Prop} {W w : World} {L : List Item} (h : Sep F W w ((coK b Bm Be).item t :: L)) : Sep F W w (coI Be b.bv t.s :: blkI Bm 113 (mcCells t.regs (.iface 210 (.pointer (some ⟨Be, 0, none⟩)))) :: L) := by
  have h1 : Sep F W w ((coK b Bm Be).items t ++ L) := Sep.split h
  have h2 := h1.perm (l := coR Be b.bv t.s ++ (blkI Bm 113 (mcCells t.regs (.iface 210 (.pointer (some ⟨Be, 0, none⟩)))) :: L)) (by
    show List.Perm ((blkI Bm 113 (mcCells t.regs (.iface 210 (.pointer (some ⟨Be, 0, none⟩)))) :: coR Be b.bv t.s) ++ L) _
    have e : coR Be b.bv t.s ++ (blkI Bm 113 (mcCells t.regs (.iface 210 (.pointer (some ⟨Be, 0, none⟩)))) :: L) = (coR Be b.bv t.s ++ [blkI Bm 113 (mcCells t.regs (.iface 210 (.pointer (some ⟨Be, 0, none⟩))))]) ++ L := by simp
    rw [e]
    exact List.Perm.append_right L (List.perm_append_comm (l₁ := [_])))
  exact Sep.join (l := coR Be b.bv t.s) h2
/-- The memory, from what it is made of. -/
def co1 (As : Option Addr) (c : Nat) (ps : List Po) (Ac : Option Addr) (cc : Nat) : CoS := ⟨⟨As, c, ps.map some⟩, Ac, cc, List.replicate ps.length 0, none, 0, []⟩
theorem co1_abs (As : Option Addr) (c : Nat) (ps : List Po) (Ac : Option Addr) (cc : Nat) : (co1 As c ps Ac cc).oj.abs = (ps.map fun p => p.o.fields).map some := by
  unfold co1 Oj.abs
  dsimp only
  rw [List.map_map, List.map_map]
  rfl
theorem co_mk {F : Nat → Prop} {W w : World} {bv : Value} {Be nO c cc : Nat} {As Ac : Option Addr} {ps : List Po} {L : List Item} (hps : ps.length = nO)
    (h : Sep F W w (blkI Be 213 #[.slice As nO c, bv, .slice Ac nO cc, .slice none 0 0] :: rowI 3 1 Ac nO cc (ints (List.replicate nO 0)) :: allI (rowI 170 1 As nO c (ps.map poPtr) :: ps.map poI) :: L)) : Sep F W w (coI Be bv (co1 As c ps Ac cc) :: L) := by
  have h1 := (h.nilRow0 3 1).perm (l := allI (rowI 170 1 As nO c (ps.map poPtr) :: ps.map poI) :: blkI Be 213 #[.slice As nO c, bv, .slice Ac nO cc, .slice none 0 0] :: rowI 3 1 Ac nO cc (ints (List.replicate nO 0)) :: rowI 3 1 none 0 0 [] :: L) (by
    refine (List.perm_append_comm (l₁ := [_, _, _]) (l₂ := [allI (rowI 170 1 As nO c (ps.map poPtr) :: ps.map poI)])).append_right L |>.trans ?_
    refine List.Perm.cons _ ?_
    exact ((List.perm_append_comm (l₁ := [rowI 3 1 none 0 0 []]) (l₂ := [blkI Be 213 #[.slice As nO c, bv, .slice Ac nO cc, .slice none 0 0], rowI 3 1 Ac nO cc (ints (List.replicate nO 0))])).append_right L))
  have h2 : Sep F W w (rowI 170 1 As nO c (ps.map poPtr) :: (ps.map poI ++ (blkI Be 213 #[.slice As nO c, bv, .slice Ac nO cc, .slice none 0 0] :: rowI 3 1 Ac nO cc (ints (List.replicate nO 0)) :: rowI 3 1 none 0 0 [] :: L))) := Sep.split (l := rowI 170 1 As nO c (ps.map poPtr) :: ps.map poI) h1
  have h3 := h2.perm (l := coR Be bv (co1 As c ps Ac cc) ++ L) (by
    have e : coR Be bv (co1 As c ps Ac cc) = [blkI Be 213 #[.slice As nO c, bv, .slice Ac nO cc, .slice none 0 0], rowI 3 1 Ac nO cc (ints (List.replicate nO 0)), rowI 3 1 none 0 0 []] ++ (rowI 170 1 As nO c (ps.map poPtr) :: ps.map poI) := by
      unfold coR coC co1 ojL Oj.v
      dsimp only
      rw [List.length_map, List.length_replicate, hps, List.map_map, List.map_map]
      rfl
    rw [e]
    refine List.Perm.trans (l₂ := (rowI 170 1 As nO c (ps.map poPtr) :: ps.map poI) ++ [blkI Be 213 #[.slice As nO c, bv, .slice Ac nO cc, .slice none 0 0], rowI 3 1 Ac nO cc (ints (List.replicate nO 0)), rowI 3 1 none 0 0 []] ++ L) (by simp) ?_
    exact List.Perm.append_right L List.perm_append_comm)
  exact Sep.join (l := coR Be bv (co1 As c ps Ac cc)) h3
end Go.Proofs.Ytjphckfbbiehdaa

namespace Go.Proofs.Ytjphckfbbiehdaa
open Go.RowKit

def triErr (nO nR nd : Nat) (obs : List Ob) (roots : List Val) (b : Int) : Int := if gcheck nO nR obs roots ≠ 0 then gcheck nO nR obs roots else if b < 1 ∨ 3 < b then 5 else if 100 < nd then 1 else 0
theorem barV_iface {b : Int} (h : ¬ (b < 1 ∨ 3 < b)) : ∃ q : Nat, b = (q : Int) ∧ (q = 1 ∨ q = 2 ∨ q = 3) ∧ barV b = (barOf q).bv := by
  obtain rfl | rfl | rfl : b = 1 ∨ b = 2 ∨ b = 3 := by omega
  · exact ⟨1, rfl, .inl rfl, rfl⟩
  · exact ⟨2, rfl, .inr (.inl rfl), rfl⟩
  · exact ⟨3, rfl, .inr (.inr rfl), rfl⟩
theorem barV_nil {b : Int} (h : b < 1 ∨ 3 < b) : barV b = .nilIface := by
  unfold barV
  rw [if_neg (by omega), if_neg (by omega), if_neg (by omega)]

set_option maxRecDepth 100000 in
set_option maxHeartbeats 8000000 in
theorem triPlay_no (w : World) (AO AR Ad : Option Addr) (nO cO nR cR nd cd : Nat) (obs : List Ob) (roots : List Val) (b : Int) (hO : ObsRd w (fun _ => True) AO nO obs) (hR : Rd w (fun _ => True) 2 AR nR (vals roots)) (hz : triErr nO nR nd obs roots b ≠ 0) :
    Calls Try.prog 40 #[.agg #[.slice AO nO cO, .slice AR nR cR], .int .i64 b, .slice Ad nd cd] w fun e w' => e = .returned (.tuple #[.agg #[.slice none 0 0, .slice none 0 0, .slice none 0 0], .int .i64 (triErr nO nR nd obs roots b)]) ∧ Below w.heap.size w w' := by
  obtain ⟨g, hg⟩ : ∃ g, w.heap.size = g := ⟨_, rfl⟩
  have hS0 := ((Sep.nil No w).blkAt 27 #[.slice AO nO cO, .slice AR nR cR] hg).blkAt 94 #[.slice none 0 0, .slice none 0 0, .slice none 0 0] (g := g + 1) (by simp [hg])
  have C1 := hide (graphCheck_any _ AO AR nO cO nR cR obs roots (hO.below hS0.below_) (hR.below hS0.below_))
  have C2 := hide (fun w' => barrierOf_any w' b)
  obtain ⟨a1, a2, a3, a4⟩ := hS0.rules 0 (g := g) (t := 27) rfl
  have HS0 := hide hS0
  unfold triErr at hz ⊢
  obtain ⟨x, hx⟩ : ∃ x, gcheck nO nR obs roots = x := ⟨_, rfl⟩
  rw [hx] at C1 hz ⊢
  clear hS0 a4 hO hR hx
  by_cases h0 : x = 0
  · subst h0
    rw [if_neg (by simp)] at hz ⊢
    by_cases hb : b < 1 ∨ 3 < b
    · rw [if_pos hb]
      rw [barV_nil hb] at C2
      clear hz hb
      go_enter Try.func40, Try.ntmps40
      go_wp2_with fail
      refine C1.out.mono ?_
      rintro e w1 ⟨rfl, hb1⟩
      have HS1 := hide (HS0.out.below hb1)
      clear hb1 HS0 C1 a1 a2 a3
      go_wp2_with fail
      refine (C2.out _).mono ?_
      rintro e w2 ⟨rfl, hb2⟩
      have hS2 := HS1.out.below hb2
      obtain ⟨x1, x2, x3, x4⟩ := hS2.rules 1 (g := g + 1) (t := 94) rfl
      have HS2 := hide hS2
      clear hb2 hS2 HS1 C2 x4
      go_wp2_with fail
      have hF := ((HS2.out.set_ 1 (g := g + 1) (t := 94) rfl 0 (.slice none 0 0)).set_ 1 (g := g + 1) (t := 94) rfl 1 (.slice none 0 0)).set_ 1 (g := g + 1) (t := 94) rfl 2 (.slice none 0 0)
      refine bodyPost_ret (v := .tuple #[.agg #[.slice none 0 0, .slice none 0 0, .slice none 0 0], .int .i64 5]) (by simp [results, Try.results40, go_sem, x1]) rfl ⟨rfl, hF.below_⟩
    · rw [if_neg hb] at hz ⊢
      obtain ⟨q, rfl, hq, hbv⟩ := barV_iface hb
      rw [hbv] at C2
      by_cases hnd : 100 < nd
      · rw [if_pos hnd]
        have t1 : decide ((100 : Int) < (nd : Int)) = true := by simp; omega
        have t2 : decide (100 < nd) = true := by simp; omega
        have hbq : (barOf q).bv = .iface (barOf q).T (.agg #[]) := rfl
        rw [hbq] at C2
        obtain ⟨T, hT⟩ : ∃ T, (barOf q).T = T := ⟨_, rfl⟩
        rw [hT] at C2
        clear hz hb hq hbv hbq hT
        go_enter Try.func40, Try.ntmps40
        go_wp2_with fail
        refine C1.out.mono ?_
        rintro e w1 ⟨rfl, hb1⟩
        have HS1 := hide (HS0.out.below hb1)
        clear hb1 HS0 C1 a1 a2 a3
        go_wp2_with fail
        refine (C2.out _).mono ?_
        rintro e w2 ⟨rfl, hb2⟩
        have hS2 := HS1.out.below hb2
        obtain ⟨x1, x2, x3, x4⟩ := hS2.rules 1 (g := g + 1) (t := 94) rfl
        have HS2 := hide hS2
        clear hb2 hS2 HS1 C2 x4
        go_wp2_with fail
        have hF := ((HS2.out.set_ 1 (g := g + 1) (t := 94) rfl 0 (.slice none 0 0)).set_ 1 (g := g + 1) (t := 94) rfl 1 (.slice none 0 0)).set_ 1 (g := g + 1) (t := 94) rfl 2 (.slice none 0 0)
        refine bodyPost_ret (v := .tuple #[.agg #[.slice none 0 0, .slice none 0 0, .slice none 0 0], .int .i64 1]) (by simp [results, Try.results40, go_sem, x1]) rfl ⟨rfl, hF.below_⟩
      · rw [if_neg hnd] at hz
        exact absurd rfl hz
  · rw [if_pos h0]
    have y1 : (x != 0) = true := by rw [bne_iff_ne]; exact h0
    clear hz h0
    go_enter Try.func40, Try.ntmps40
    go_wp2_with fail
    refine C1.out.mono ?_
    rintro e w1 ⟨rfl, hb1⟩
    have hS1 := HS0.out.below hb1
    obtain ⟨x1, x2, x3, x4⟩ := hS1.rules 1 (g := g + 1) (t := 94) rfl
    have HS1 := hide hS1
    clear hb1 hS1 HS0 C1 a1 a2 a3 x4
    go_wp2_with fail
    have hF := ((HS1.out.set_ 1 (g := g + 1) (t := 94) rfl 0 (.slice none 0 0)).set_ 1 (g := g + 1) (t := 94) rfl 1 (.slice none 0 0)).set_ 1 (g := g + 1) (t := 94) rfl 2 (.slice none 0 0)
    refine bodyPost_ret (v := .tuple #[.agg #[.slice none 0 0, .slice none 0 0, .slice none 0 0], .int .i64 x]) (by simp [results, Try.results40, go_sem, x1]) rfl ⟨rfl, hF.below_⟩
end Go.Proofs.Ytjphckfbbiehdaa

namespace Go.Proofs.Ytjphckfbbiehdaa
open Go.RowKit

theorem neq_cnt (w : World) (c n : Int) : (binOp .neq 174 (.agg #[.int .i64 c, .int .i64 n]) (.agg #[.int .i64 c, .int .i64 n])).run Try.prog w = .ok (.bool false) w := by
  have h1 : Try.prog.underlying 174 = some (.struct (Try.prog.fieldsOf 174)) := by kernel_rfl
  have h2 : Try.prog.stoodInHeld 174 = false := by kernel_rfl
  obtain ⟨F, hF⟩ : ∃ F, (Try.prog.fieldsOf 174).toList = F := ⟨_, rfl⟩
  have h5 : F = [F[0]!, F[1]!] := by rw [← hF]; kernel_rfl
  have n1 : (F[0]!).name ≠ "_" := by rw [← hF]; rw [show ((Try.prog.fieldsOf 174).toList[0]!).name = "Object" from by kernel_rfl]; decide
  have n2 : (F[1]!).name ≠ "_" := by rw [← hF]; rw [show ((Try.prog.fieldsOf 174).toList[1]!).name = "N" from by kernel_rfl]; decide
  obtain ⟨t0, ht0⟩ : ∃ t, (F[0]!).type = t := ⟨_, rfl⟩
  obtain ⟨t1, ht1⟩ : ∃ t, (F[1]!).type = t := ⟨_, rfl⟩
  have u0 : ∃ k, Try.prog.underlying t0 = some (.int k) := by rw [← ht0, ← hF]; exact ⟨.i64, by kernel_rfl⟩
  have u1 : ∃ k, Try.prog.underlying t1 = some (.int k) := by rw [← ht1, ← hF]; exact ⟨.i64, by kernel_rfl⟩
  have o0 : ∀ x y, (part t0 #[x, y] (F[0]!).offset).run Try.prog w = .ok x w := fun x y => by rw [← ht0, ← hF]; kernel_rfl
  have o1 : ∀ x y, (part t1 #[x, y] (F[1]!).offset).run Try.prog w = .ok y w := fun x y => by rw [← ht1, ← hF]; kernel_rfl
  rw [run_neq_struct, run_equalIn_agg _ _ _ _ _ h1 h2, hF, h5]
  obtain ⟨k0, u0⟩ := u0
  obtain ⟨k1, u1⟩ := u1
  simp only [Op.eqFields, ht0, ht1, n1, n2, ne_eq, not_false_iff, if_true, Sem.run_ite, Sem.run_bind, o0, o1, Result.andThen_ok, run_equalIn_int w _ _ _ _ _ _ u0, run_equalIn_int w _ _ _ _ _ _ u1]
  simp
theorem guard_cnt (w : World) (x y : Operand) (a b : Array Value) : (eqGuard .neq 174 x y (.agg a) (.agg b)).run Try.prog w = .ok () w :=
  run_eqGuard_agg w .neq _ x y _ _ (by kernel_rfl)

set_option maxRecDepth 100000 in
set_option maxHeartbeats 8000000 in
theorem counts_any (w : World) (A1 A2 : Option Addr) (n c1 c2 : Nat) (os : List (Int × Int)) (hn : n ≤ 1000) (h1 : Rd w (fun _ => True) 2 A1 n (countsV os)) (h2 : Rd w (fun _ => True) 2 A2 n (countsV os)) :
    Calls Try.prog 33 #[.slice A1 n c1, .slice A2 n c2] w fun e w' => e = .returned (.bool true) ∧ Below w.heap.size w w' := by
  have HL := hide (show os.length = n by have := h1.1; rw [countsV_length] at this; omega)
  have hng := neq_cnt
  have hgd := guard_cnt
  go_enter Try.func33, Try.ntmps33
  go_wp2_with fail
  go_loopw [5] (fun s wr => ∃ (k : Nat), k ≤ n ∧ s = .int .i64 k ∧ Below w.heap.size w wr) (fun s _ => n - (intOf s).toNat)
  case atStart => exact ⟨0, by omega, rfl, Below.refl _ _⟩
  case round =>
    obtain ⟨k, hk, rfl, hb⟩ := hrel
    by_cases hlt : k < n
    · have hkl : k < os.length := by rw [HL.out]; exact hlt
      obtain ⟨v0, v1⟩ := countsV_at os k hkl
      obtain ⟨ad, hA, _, had, hc, hd⟩ := (h1.below hb).atN hlt
      obtain ⟨ad2, hA2, _, had2, hc2, hd2⟩ := (h2.below hb).atN hlt
      have e0 := hc _ v0
      have e1 := hd 0 _ v1
      have f0 := hc2 _ v0
      have f1 := hd2 0 _ v1
      obtain ⟨o, ho⟩ : ∃ o, os[k] = o := ⟨_, rfl⟩
      rw [ho] at e0 e1 f0 f1
      obtain ⟨c, m⟩ := o
      dsimp only at e0 e1 f0 f1
      subst hA hA2
      have HB := hide hb
      clear hc hd hc2 hd2 v0 v1 hb ho
      go_wp2_with fail
      go_region_held3 (fun w' => w'.cell? (ad.add (k * 2)) = some (.int .i64 c) ∧ w'.cell? ⟨(ad.add (k * 2)).block, (ad.add (k * 2)).off + 1, none⟩ = some (.int .i64 m) ∧ w'.cell? (ad2.add (k * 2)) = some (.int .i64 c) ∧ w'.cell? ⟨(ad2.add (k * 2)).block, (ad2.add (k * 2)).off + 1, none⟩ = some (.int .i64 m)) (go_keep) (fail)
      all_goals go_wp2_with fail
      all_goals exact ⟨⟨k + 1, by omega, by go_num, HB.out.drew⟩, by simp [intOf]; omega⟩
    · obtain rfl : k = n := by omega
      go_wp2_with fail
      go_ret
      exact ⟨rfl, hb⟩
end Go.Proofs.Ytjphckfbbiehdaa
