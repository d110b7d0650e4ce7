/- A memory that counts: a new object. A memory that counts: a field becomes a value. A memory that counts as a machine's memory; a deed. -/
import Derived.Test.YtjphckfbbiehdaaGCountPlays2
import Derived.Test.YtjphckfbbiehdaaGTriPlays3
set_option linter.unusedSimpArgs false
set_option linter.unusedVariables false
namespace Go.Proofs.Ytjphckfbbiehdaa
open Go.RowKit

theorem cn_gather {F : Nat → Prop} {W w : World} {x b c g : Item} {L : List Item} (h : Sep F W w (x :: b :: c :: g :: L)) : Sep F W w [allI (b :: L), x, c, g] :=
  Sep.join (l := b :: L) (h.perm ((List.Perm.swap b x _).trans (List.Perm.cons b (List.perm_append_comm (l₁ := [x, c, g]) (l₂ := L)))).symm.symm)
theorem cn_ungather {F : Nat → Prop} {W w : World} {x b c g : Item} {L : List Item} (h : Sep F W w [allI (b :: L), x, c, g]) : Sep F W w (x :: b :: c :: g :: L) :=
  (Sep.split (l := b :: L) h).perm ((List.Perm.swap b x _).trans (List.Perm.cons b (List.perm_append_comm (l₁ := [x, c, g]) (l₂ := L)))).symm

set_option maxRecDepth 100000 in
set_option maxHeartbeats 8000000 in
theorem ctnew_any {F : Nat → Prop} {W0 w : World} {Be Bm : Nat} {R : Int} {t : CnT} {x : Item} (h : Sep F W0 w (x :: cnR Be Bm R t)) (hl : t.cnt.length = t.oj.ps.length) (hn : t.oj.ps.length ≤ 600) {n : Nat} (h4 : n ≤ 4) :
    Calls Try.prog 270 #[.pointer (some ⟨Be, 0, none⟩), .int .i64 (n : Int)] w fun e w' => e = .returned (.tuple #[.int .i64 (cnNew R t.a n).2.1, .int .i64 (cnNew R t.a n).2.2]) ∧ ∃ t' : CnT, t'.a = (cnNew R t.a n).1 ∧ t'.regs = t.regs ∧ Sep F W0 w' (x :: cnR Be Bm R t') := by
  obtain ⟨k1, -, k3, k4, k5, -, k7, k8⟩ := cn_cells (pre := [x]) h
  have hnum : t.a.num ≤ t.oj.ps.length := by rw [← t.n]; exact someN_le _
  unfold cnNew
  by_cases hR : R ≤ (t.a.num : Int)
  · rw [if_pos hR]
    obtain ⟨N, hN⟩ : ∃ N, (t.a.num : Int) = N := ⟨_, rfl⟩
    rw [hN] at k5 hR
    have t1 : decide (R ≤ N) = true := by simp [hR]
    have HS := hide h
    clear h hN hnum hl k1 k3 k7 hR
    go_enter Try.func270, Try.ntmps270
    go_wp2_with fail
    go_quiet (fail)
    go_wp2_with fail
    refine bodyPost_ret (v := .tuple #[.int .i64 0, .int .i64 6]) (by simp [results, Try.results270, go_sem]) rfl ⟨rfl, t, rfl, rfl, by first | exact HS.out | exact HS.out.drew | exact HS.out.drewN _⟩
  · rw [if_neg hR]
    have hpn : (t.a.push n).num = t.a.num + 1 := someN_app _ _
    have hS1 : Sep F W0 (w.setCell ⟨Be, 4, none⟩ (.int .i64 ((t.a.num : Int) + 1))) (x :: blkI Be 167 (cnC Bm R ((t.a.num : Int) + 1) t) :: rowI 3 1 t.Ac t.cnt.length t.cc (ints t.cnt) :: rowI 3 1 t.Ag t.gl.length t.cg (ints t.gl) :: ojL t.oj) := h.set_ 1 (g := Be) (t := 167) rfl 4 (.int .i64 ((t.a.num : Int) + 1))
    have HFIN := hide (fun (wq : World) (A7 As : Option Addr) (c7 cA B gB : Nat) (hq : Sep F W0 wq (x :: blkI Be 167 (((cnC Bm R ((t.a.num : Int) + 1) t).setIfInBounds 2 (.slice A7 (t.cnt.length + 1) c7)).setIfInBounds 0 (t.oj.new As cA B gB n).v) :: rowI 3 1 A7 (t.cnt.length + 1) c7 (ints t.cnt ++ [.int .i64 0]) :: rowI 3 1 t.Ag t.gl.length t.cg (ints t.gl) :: ojL (t.oj.new As cA B gB n))) =>
      (show ∃ t' : CnT, t'.a = t.a.push n ∧ t'.regs = t.regs ∧ Sep F W0 wq (x :: cnR Be Bm R t') from by
        have ea : (⟨t.regs, t.oj.new As cA B gB n, A7, c7, t.cnt ++ [0], t.Ag, t.cg, t.gl⟩ : CnT).a = t.a.push n := by
          unfold CnT.a CnA.push
          dsimp only
          rw [Oj.abs_new]
        refine ⟨⟨t.regs, t.oj.new As cA B gB n, A7, c7, t.cnt ++ [0], t.Ag, t.cg, t.gl⟩, ea, rfl, ?_⟩
        unfold cnR
        rw [ea, hpn]
        unfold cnRN cnC
        dsimp only
        rw [List.length_append, List.length_singleton, show ints (t.cnt ++ [0]) = ints t.cnt ++ [.int .i64 0] from by simp [ints]]
        exact hq))
    obtain ⟨N, hN⟩ : ∃ N, (t.a.num : Int) = N := ⟨_, rfl⟩
    rw [hN] at k5 hR hS1 HFIN
    have t1 : decide (R ≤ N) = false := by simp only [hR, decide_false]
    have t5 : IntKind.i64.wrap (N + 1) = N + 1 := wrapC64 _ (by omega) (by omega)
    obtain ⟨m, hm⟩ : ∃ m, t.cnt.length = m := ⟨_, rfl⟩
    rw [hm] at k3 hS1 HFIN hl
    have hm6 : m ≤ 600 := by omega
    have HS1 := hide hS1
    have HN := hide hn
    have HON := hide t.n
    obtain ⟨b1, b2, b3, _⟩ := hS1.rules 1 (g := Be) (t := 167) rfl
    clear h hN hnum hl hR hm hS1 hpn k1 b1 b2 b3 hn
    go_enter Try.func270, Try.ntmps270
    go_wp2_with fail
    go_quiet (fail)
    go_wp2_with (first
      | (at_builtin
         refine wpList_app1 (cs := #[.int .i64 0]) rfl (.tmp 26) (.tmp 27) 35 rfl (F := F) (W := W0) sInt (items := _ :: _ :: _ :: _ :: _) (by first | exact HS1.out | exact HS1.out.drew | exact HS1.out.drewN _) 2 (n := m) rfl rfl rfl (by simp) rfl rfl (by omega) ?_
         intro A7 c7 w7 hS7 hC7
         obtain ⟨j1, j2, j3, _⟩ := hS7.rules 1 (g := Be) (t := 167) rfl))
    have hS8 := cn_gather (hS7.set_ 1 (g := Be) (t := 167) rfl 2 (.slice A7 (m + 1) c7))
    have CN := onew_any ((Sep.start (hS8.get 0 rfl)).flat) (s := t.oj) rfl (by have := HN.out; omega) h4
    refine CN.mono ?_
    rintro e w9 ⟨rfl, As, cA, B, gB, hP9⟩
    have hS9 := cn_ungather (hS8.call 0 rfl hP9.fold)
    have HF9 := hide (HFIN.out w9 A7 As c7 cA B gB hS9)
    clear hS9 hP9 hS8 hS7 hC7 j1 j2 j3 CN HFIN HS1
    go_wp2_with fail
    refine bodyPost_ret (v := .tuple #[.int .i64 t.oj.ps.length, .int .i64 0]) (by simp [results, Try.results270, go_sem]) rfl ⟨by rw [HON.out], HF9.out⟩
end Go.Proofs.Ytjphckfbbiehdaa

namespace Go.Proofs.Ytjphckfbbiehdaa
open Go.RowKit

def CnT.put (t : CnT) (i k : Nat) (v : Val) (p : Po) : CnT := { t with oj := t.oj.put i k v p }
theorem CnT.put_a {t : CnT} {i : Nat} {p : Po} (hi : t.oj.ps[i]? = some (some p)) (k : Nat) (v : Val) : (t.put i k v p).a = t.a.seto i k v := by
  have hf : t.a.fld i = some p.o.fields := CnA.fld_iff.2 (by show t.oj.abs[i]? = _; unfold Oj.abs; rw [List.getElem?_map, hi]; rfl)
  unfold CnA.seto
  rw [hf]
  unfold CnT.put CnT.a
  dsimp only
  rw [oj_put_abs]
  rfl
theorem y_cells {g1 g : Nat} {x : Item} {cs1 cs : Array Value} {w : World} (h : (allI [blkI g1 107 cs1, blkI g 107 cs, x]).P w) : ((∀ i, w.cell? ⟨g1, i, none⟩ = cs1[i]?) ∧ (∀ i, w.frozen? ⟨g1, i, none⟩ = false) ∧ g1 < w.heap.size) ∧ (∀ i, w.cell? ⟨g, i, none⟩ = cs[i]?) ∧ (∀ i, w.frozen? ⟨g, i, none⟩ = false) ∧ g < w.heap.size := by
  obtain ⟨a1, a2, a3, _⟩ := (Sep.start h).flat.rules 0 (g := g1) (t := 107) rfl
  obtain ⟨b1, b2, b3, _⟩ := (Sep.start h).flat.rules 1 (g := g) (t := 107) rfl
  exact ⟨⟨a1, a2, a3⟩, b1, b2, b3⟩
theorem cn_pgather {F : Nat → Prop} {W w : World} {y : Item} {Be Bm : Nat} {R N : Int} {t : CnT} (h : Sep F W w (y :: cnRN Be Bm R N t)) : Sep F W w [allI (ojL t.oj), y, blkI Be 167 (cnC Bm R N t), rowI 3 1 t.Ac t.cnt.length t.cc (ints t.cnt), rowI 3 1 t.Ag t.gl.length t.cg (ints t.gl)] :=
  Sep.join (l := ojL t.oj) (Sep.perm (l := ojL t.oj ++ [y, blkI Be 167 (cnC Bm R N t), rowI 3 1 t.Ac t.cnt.length t.cc (ints t.cnt), rowI 3 1 t.Ag t.gl.length t.cg (ints t.gl)]) h (List.perm_append_comm (l₁ := [y, blkI Be 167 (cnC Bm R N t), rowI 3 1 t.Ac t.cnt.length t.cc (ints t.cnt), rowI 3 1 t.Ag t.gl.length t.cg (ints t.gl)])))
theorem cn_pungather {F : Nat → Prop} {W w : World} {y : Item} {Be Bm : Nat} {R N : Int} {t : CnT} {i k : Nat} {v : Val} {p : Po} (h : Sep F W w [allI (ojL (t.oj.put i k v p)), y, blkI Be 167 (cnC Bm R N t), rowI 3 1 t.Ac t.cnt.length t.cc (ints t.cnt), rowI 3 1 t.Ag t.gl.length t.cg (ints t.gl)]) : Sep F W w (y :: cnRN Be Bm R N (t.put i k v p)) := by
  have h1 := (Sep.split (l := ojL (t.oj.put i k v p)) h).perm (List.perm_append_comm (l₁ := ojL (t.oj.put i k v p)) (l₂ := [y, blkI Be 167 (cnC Bm R N t), rowI 3 1 t.Ac t.cnt.length t.cc (ints t.cnt), rowI 3 1 t.Ag t.gl.length t.cg (ints t.gl)]))
  have e : cnC Bm R N (t.put i k v p) = cnC Bm R N t := by
    unfold cnC CnT.put Oj.v Oj.put
    dsimp only
    rw [List.length_set]
  unfold cnRN
  rw [e]
  exact h1

set_option maxRecDepth 100000 in
set_option maxHeartbeats 16000000 in
theorem ctput_any {F : Nat → Prop} {W0 w : World} {Be Bm : Nat} {R : Int} {t : CnT} {x : Item} (h : Sep F W0 w (x :: cnR Be Bm R t)) (ok : CnOk t.a) (hn : t.oj.ps.length ≤ 600) {i k : Nat} {p : Po} (v : Val) (hv : t.a.vok v) (hi : t.oj.ps[i]? = some (some p)) (hk : k < p.o.fields.length) :
    Calls Try.prog 271 #[.pointer (some ⟨Be, 0, none⟩), .int .i64 (i : Int), .int .i64 (k : Int), .agg #[.bool v.1, .int .i64 v.2]] w fun e w' => (∃ u, e = .returned u) ∧ ∃ t' : CnT, t'.a = cnPut t.a i k v ∧ t'.regs = t.regs ∧ Sep F W0 w' (x :: cnR Be Bm R t') := by
  obtain ⟨g, hg⟩ : ∃ g, w.heap.size = g := ⟨_, rfl⟩
  have hf : t.a.fld i = some p.o.fields := CnA.fld_iff.2 (by show t.oj.abs[i]? = _; unfold Oj.abs; rw [List.getElem?_map, hi]; rfl)
  have h4 := ok.inv.f4 i _ hf
  have hil := (List.getElem?_eq_some_iff.1 hi).1
  have hS0 := h.blkAtF 107 #[.bool v.1, .int .i64 v.2] hg
  obtain ⟨W, hW⟩ : ∃ W, w.alloc (.cells #[.bool v.1, .int .i64 v.2] 107) = W := ⟨_, rfl⟩
  rw [hW] at hS0
  obtain ⟨k1, -, -, -, -, -, -, k8⟩ := cn_cells (pre := [_, x]) hS0
  have CG := hide (oget_any (pre := [_, x, _, _, _]) hS0 (by omega) hi hk h4)
  obtain ⟨p1, p2, p3, p4, p5⟩ := ok.put hf hk hv
  have hnum : t.a.num ≤ t.a.objs.length := someN_le _
  have hgb := ok.gb
  have hon := t.n
  have hcl : t.cnt.length ≤ 1000 := by have := ok.inv.cl; rw [hon] at this; have h3 : t.a.cnt = t.cnt := rfl; rw [h3] at this; omega
  have hvin := cn_vin ok.inv hv
  have hbd := cn_bound ok.inv (by have := ok.r8; omega) hn
  have HU := hide (fun (wq : World) (y : Item) (hq : Sep F W0 wq (y :: cnR Be Bm R t)) => show Calls Try.prog 73 #[.pointer (some ⟨Be, 0, none⟩), .agg #[.bool v.1, .int .i64 v.2]] wq fun e w' => (∃ u, e = .returned u) ∧ Sep F W0 w' (y :: cnR Be Bm R (t.cn (t.a.up v).cnt)) from by
    rw [← cnR_cn]
    exact cup_any hq hcl v hvin hbd)
  have hi1 : (t.cn (t.a.up v).cnt).oj.ps[i]? = some (some p) := hi
  have HP := hide (fun (wq : World) (hq : (allI (ojL t.oj)).P wq) => oput_any hq (by omega) v hi hk h4)
  have e2 : ((t.cn (t.a.up v).cnt).put i k v p).a = (t.a.up v).seto i k v := by rw [CnT.put_a hi1, t.cn_a]
  have hup : (t.a.up v).fld i = some p.o.fields := by rw [up_fld]; exact hf
  have en : (((t.cn (t.a.up v).cnt).put i k v p).a.num : Int) = ((t.cn (t.a.up v).cnt).a.num : Int) := by rw [e2, seto_num v hup, t.cn_a]
  have HPT := hide (fun (wq : World) (y : Item) (hq : Sep F W0 wq (y :: cnRN Be Bm R ((t.cn (t.a.up v).cnt).a.num : Int) ((t.cn (t.a.up v).cnt).put i k v p))) => show Sep F W0 wq (y :: cnR Be Bm R ((t.cn (t.a.up v).cnt).put i k v p)) from by unfold cnR; rw [en]; exact hq)
  have hol : ((t.a.up v).seto i k v).objs.length = t.a.objs.length := by show ((t.a.up v).objs.set _ _).length = _; rw [List.length_set, up_objs]
  have HD := hide (fun (wq : World) (y : Item) (hq : Sep F W0 wq (y :: cnR Be Bm R ((t.cn (t.a.up v).cnt).put i k v p))) => cdown_any ((t.a.up v).seto i k v).objs.length (v := p.o.fields[k]) (P := t.a.regs) hq (by rw [e2]; exact p1) (by rw [e2]; exact someN_le _) (by rw [← CnT.n, e2, hol, hon]; exact hn) (by rw [e2, seto_num v hup, up_num]; show (t.a.gl).length + _ ≤ _; omega) (by rw [e2, seto_num v hup, up_num]; have := ok.r8; omega))
  have HA := hide (show ∀ t' : CnT, t'.a = downW (cdropN ((t.a.up v).seto i k v).objs.length) ((t.cn (t.a.up v).cnt).put i k v p).a p.o.fields[k] → t'.a = cnPut t.a i k v ∧ t'.regs = t.regs from fun t' e => by
    rw [e2] at e
    have e3 : t'.a = cnPut t.a i k v := by rw [p2]; exact e
    exact ⟨e3, by have e4 : t'.a.regs = t.a.regs := by rw [e3]; exact p4
                  exact e4⟩)
  obtain ⟨old, ho⟩ : ∃ o, p.o.fields[k] = o := ⟨_, rfl⟩
  rw [ho] at CG HD HA
  obtain ⟨t1, ht1⟩ : ∃ q, t.cn (t.a.up v).cnt = q := ⟨_, rfl⟩
  have hoj : t1.oj = t.oj := by rw [← ht1]; rfl
  rw [ht1] at HPT HD HU HA
  rw [← hoj] at HP
  obtain ⟨bv, mv⟩ := v
  obtain ⟨ov, om⟩ := old
  dsimp only at hS0 CG HU HD HA HP HPT hW ⊢
  obtain ⟨x1, x2, x3, _⟩ := hS0.rules 0 (g := g) (t := 107) rfl
  have x5 := (x1 0).trans (show _ = some (.bool bv) from rfl)
  have x6 := (x1 1).trans (show _ = some (.int .i64 mv) from rfl)
  obtain ⟨N, hN⟩ : ∃ n, t.oj.ps.length = n := ⟨_, rfl⟩
  have k1' : W.cell? ⟨Be, 0, none⟩ = some (.slice t.oj.As N t.oj.c) := by rw [← hN]; exact k1
  have hv1 : t1.oj.v = .slice t.oj.As N t.oj.c := by rw [hoj]; unfold Oj.v; rw [hN]
  rw [hv1] at HP
  unfold Oj.v at CG
  rw [hN] at CG
  have HOJ := hide hoj
  have HN := hide hN
  have HS0 := hide hS0
  clear h hv hf h4 hS0 k1 p1 p2 p3 p4 p5 hnum hgb hon hcl hvin hbd hi1 e2 hup en hol ho ht1 x1 hk hi ok hn hil hN hoj hv1
  go_enter Try.func271, Try.ntmps271
  go_wp2_with fail
  refine CG.out.mono ?_
  rintro e w1 ⟨rfl, hb1⟩
  have hS1 := HS0.out.below hb1
  obtain ⟨g1, hg1⟩ : ∃ g, w1.heap.size = g := ⟨_, rfl⟩
  have hS2 := hS1.blkAtF 107 #[.bool ov, .int .i64 om] hg1
  obtain ⟨X, hX⟩ : ∃ X, w1.alloc (.cells #[.bool ov, .int .i64 om] 107) = X := ⟨_, rfl⟩
  rw [hX] at hS2
  obtain ⟨y1, y2, y3, _⟩ := hS2.rules 1 (g := g) (t := 107) rfl
  have y5 := (y1 0).trans (show _ = some (.bool bv) from rfl)
  have y6 := (y1 1).trans (show _ = some (.int .i64 mv) from rfl)
  have HU2 := hide (HU.out X _ (Sep.join (l := [_, _, x]) hS2))
  clear hS1 hS2 HS0 HU y1 hb1 x2 x3 x5 x6 k1' k8 CG
  go_wp2_with fail
  refine HU2.out.mono ?_
  rintro e w2 ⟨⟨u, rfl⟩, hS3⟩
  obtain ⟨k1, -, -, -, -, -, -, k8⟩ := cn_cells (pre := [_]) hS3
  rw [show t1.oj.v = .slice t.oj.As N t.oj.c from by rw [HOJ.out]; unfold Oj.v; rw [HN.out]] at k1
  obtain ⟨⟨z1, z2, z3⟩, y1, y2, y3⟩ := y_cells (hS3.get 0 rfl)
  have y5 := (y1 0).trans (show _ = some (.bool bv) from rfl)
  have y6 := (y1 1).trans (show _ = some (.int .i64 mv) from rfl)
  have hg5 := cn_pgather hS3.drew
  have CP5 := hide (HP.out w2.drew (hg5.get 0 rfl))
  have HG5 := hide hg5
  clear hg5 hS3 HU2 HP y1 z1 z2 z3
  go_wp2_with fail
  go_region_held3 (fun w' => w'.cell? ⟨Be, 0, none⟩ = some (.slice t.oj.As N t.oj.c) ∧ w'.cell? ⟨g, 0, none⟩ = some (.bool bv) ∧ w'.cell? ⟨g, 1, none⟩ = some (.int .i64 mv)) (go_keep)
    ((go_at_call 266; (with_reducible refine CP5.out.mono ?_); rintro e w6 ⟨⟨u6, rfl⟩, hP6⟩; have hS6 := HG5.out.call 0 rfl hP6; obtain ⟨j1, _, j3, _⟩ := hS6.rules 2 (g := Be) (t := 167) rfl; have j5 : w6.cell? ⟨Be, 0, none⟩ = some (.slice t.oj.As N t.oj.c) := (j1 0).trans (show some t1.oj.v = _ from by rw [HOJ.out]; unfold Oj.v; rw [HN.out]); obtain ⟨⟨z1, z2, z3⟩, y1, y2, y3⟩ := y_cells (hS6.get 1 rfl); have y5 := (y1 0).trans (show _ = some (.bool bv) from rfl); have y6 := (y1 1).trans (show _ = some (.int .i64 mv) from rfl); have z5 := (z1 0).trans (show _ = some (.bool ov) from rfl); have z6 := (z1 1).trans (show _ = some (.int .i64 om) from rfl); have HS6 := hide hS6; clear hP6 hS6 y1 z1 j1))
  all_goals
    have hS7 := HPT.out _ _ (cn_pungather HS6.out)
    have HS7 := hide hS7
    clear hS7 HS6 HPT
    go_wp2_with fail
    refine (HD.out _ _ HS7.out).mono ?_
    rintro e w8 ⟨⟨u8, rfl⟩, t', hab, hS8⟩
    obtain ⟨a1, a2⟩ := HA.out t' hab
    have HFIN := hide (show Sep F W0 w8 (x :: cnR Be Bm R t') from (Sep.split (l := [_, _, x]) hS8).sub (.cons _ (.cons _ (List.Sublist.refl _))))
    clear hS8 hab HS7 HD HA
    go_wp2_with fail
    go_end0
    exact ⟨⟨_, rfl⟩, t', a1, a2, HFIN.out⟩
end Go.Proofs.Ytjphckfbbiehdaa

namespace Go.Proofs.Ytjphckfbbiehdaa
open Go.RowKit

structure CnOk2 (a : CnA) : Prop where
  ok : CnOk a
  n : a.objs.length ≤ 500
def cnKm (R : Int) (Bm Be : Nat) : MemK where
  A := CnA
  St := CnT
  abs := CnT.a
  Bm := Bm
  T := 164
  p := .pointer (some ⟨Be, 0, none⟩)
  regs := CnA.regs
  fld := CnA.fld
  rest t := cnR Be Bm R t
  ok := CnOk2
  ok1 a := CnOk a ∧ a.objs.length < 500
  hold := CnA.hold
  setr := CnA.sr
  new_ a n := cnNew R a n
  put := cnPut
  fH := 269
  fN := 270
  fL := 264
  fG := 262
  fP := 271
  rL t := t.oj.v
  rG t := t.oj.v
  rP _ := .pointer (some ⟨Be, 0, none⟩)
theorem nmeth_hold (x : Value) (w : World) : (method 455 164 x "Hold").run Try.prog w = .ok (269, x) w := by kernel_rfl
theorem nmeth_new (x : Value) (w : World) : (method 455 164 x "New").run Try.prog w = .ok (270, x) w := by kernel_rfl
theorem nmeth_put (x : Value) (w : World) : (method 455 164 x "Put").run Try.prog w = .ok (271, x) w := by kernel_rfl
theorem nmeth_len0 (Be : Nat) (w : World) : (method 455 164 (.pointer (some ⟨Be, 0, none⟩)) "Len").run Try.prog w = (Sem.run Try.prog (do let v ← receiverAt 101 (.var ⟨Be, 0, none⟩) false none; pure (264, v)) w) := by kernel_rfl
theorem nmeth_get0 (Be : Nat) (w : World) : (method 455 164 (.pointer (some ⟨Be, 0, none⟩)) "Get").run Try.prog w = (Sem.run Try.prog (do let v ← receiverAt 101 (.var ⟨Be, 0, none⟩) false none; pure (262, v)) w) := by kernel_rfl
theorem nmeth_len (Be : Nat) (v : Value) (w : World) (h : w.cell? ⟨Be, 0, none⟩ = some v) : (method 455 164 (.pointer (some ⟨Be, 0, none⟩)) "Len").run Try.prog w = .ok (264, v) w := by
  rw [nmeth_len0, Sem.run_bind, recv_cell Be w v h]; rfl
theorem nmeth_get (Be : Nat) (v : Value) (w : World) (h : w.cell? ⟨Be, 0, none⟩ = some v) : (method 455 164 (.pointer (some ⟨Be, 0, none⟩)) "Get").run Try.prog w = .ok (262, v) w := by
  rw [nmeth_get0, Sem.run_bind, recv_cell Be w v h]; rfl
theorem nkm_flat {R : Int} {Bm Be : Nat} {t : CnT} {w : World} (hP : ((cnKm R Bm Be).item t).P w) : Sep ((cnKm R Bm Be).item t).fp w w (cnM Be Bm t :: cnR Be Bm R t) := (Sep.start hP).flat
theorem nkm_fold {R : Int} {Bm Be : Nat} {t : CnT} {F : Nat → Prop} {W0 w : World} (h : Sep F W0 w (cnM Be Bm t :: cnR Be Bm R t)) : Sep F W0 w [(cnKm R Bm Be).item t] := Sep.fold (l := (cnKm R Bm Be).items t) h
theorem cnM_regs {Be Bm : Nat} {t t' : CnT} (h : t'.regs = t.regs) : cnM Be Bm t' = cnM Be Bm t := by unfold cnM; rw [h]
set_option maxHeartbeats 1000000 in
theorem cnKm_ok (R : Int) (Bm Be : Nat) : (cnKm R Bm Be).Ok where
  r8 _ ok := CnOk.r8 (CnOk2.ok ok)
  vr _ v ok hv := CnOk.vr (CnOk2.ok ok) (v := v) hv
  vf _ i fs v ok h hv := CnInv.vokF (CnOk.inv (CnOk2.ok ok)) h hv
  f4 _ i fs ok h := CnInv.f4 (CnOk.inv (CnOk2.ok ok)) i fs h
  lim _ i fs ok h := by have h1 := CnA.fld_lt h; have h2 := CnOk2.n ok; omega
  set_ t r v := ⟨{ t with regs := t.regs.set r v }, rfl, rfl⟩
  regs_set _ _ _ := rfl
  regs_hold a r v := (down_regs _ _).trans (up_regs _ _)
  regs_put a i k v := (down_regs _ _).trans (up_regs _ _)
  eH := kenter_of Try.func269 (by kernel_rfl) rfl
  eN := kenter_of Try.func270 (by kernel_rfl) rfl
  eL := kenter_of Try.func264 (by kernel_rfl) rfl
  eG := kenter_of Try.func262 (by kernel_rfl) rfl
  eP := kenter_of Try.func271 (by kernel_rfl) rfl
  mH w := nmeth_hold _ w
  mN w := nmeth_new _ w
  mL _ w hP := nmeth_len Be _ w (cn_cells (pre := [_]) (nkm_flat hP)).1
  mG _ w hP := nmeth_get Be _ w (cn_cells (pre := [_]) (nkm_flat hP)).1
  mP _ w _ := nmeth_put _ w
  cH t w r v hP ok hr hv := by
    have hn : t.oj.ps.length ≤ 600 := by have h1 := CnOk2.n ok; have h2 := t.n; have h3 : (CnA.objs ((cnKm R Bm Be).abs t)).length = t.a.objs.length := rfl; omega
    refine (cthold_any (nkm_flat hP) (CnOk2.ok ok) hn hr v hv).mono ?_
    rintro e w' ⟨he, t', e1, hS⟩
    exact ⟨he, t', e1, nkm_fold hS⟩
  cN t w n hP ok h4 := by
    have hn : t.oj.ps.length ≤ 600 := by have h1 := CnOk2.n ok; have h2 := t.n; have h3 : (CnA.objs ((cnKm R Bm Be).abs t)).length = t.a.objs.length := rfl; omega
    refine (ctnew_any (nkm_flat hP) ((CnInv.cl (CnOk.inv (CnOk2.ok ok))).trans t.n) hn h4).mono ?_
    rintro e w' ⟨he, t', e1, e2, hS⟩
    rw [← cnM_regs e2] at hS
    exact ⟨he, t', e1, nkm_fold hS⟩
  ok_of _ h := ⟨h.1, by have := h.2; omega⟩
  okN a n h h4 := by
    obtain ⟨k1, k2, _, k4⟩ := CnOk.new_ h.1 R h4
    exact ⟨⟨k1, by show (cnNew R a n).1.objs.length ≤ 500; have := h.2; omega⟩, k2⟩
  cL t w i fs hP ok h := by
    obtain ⟨p, hp, hf⟩ := CnT.fld h
    have hS := nkm_flat hP
    have hl := oj_len (pre := [_, _, _, _]) hS hp
    have hn : t.oj.ps.length ≤ 600 := by have h1 := CnOk2.n ok; have h2 := t.n; have h3 : (CnA.objs ((cnKm R Bm Be).abs t)).length = t.a.objs.length := rfl; omega
    refine (olen_any (pre := [_, _, _, _]) hS (by omega) hp).mono fun e w' ⟨he, hw⟩ => ⟨?_, hw⟩
    rw [he, ← hf, hl]
  cG t w i k fs hk hP ok h := by
    obtain ⟨p, hp, hf⟩ := CnT.fld h
    have hS := nkm_flat hP
    have hn : t.oj.ps.length ≤ 600 := by have h1 := CnOk2.n ok; have h2 := t.n; have h3 : (CnA.objs ((cnKm R Bm Be).abs t)).length = t.a.objs.length := rfl; omega
    have h4 := CnInv.f4 (CnOk.inv (CnOk2.ok ok)) i fs h
    subst hf
    exact oget_any (pre := [_, _, _, _]) hS (by omega) hp hk h4
  cP t w i k fs v hk hP ok h hv := by
    obtain ⟨p, hp, hf⟩ := CnT.fld h
    have hn : t.oj.ps.length ≤ 600 := by have h1 := CnOk2.n ok; have h2 := t.n; have h3 : (CnA.objs ((cnKm R Bm Be).abs t)).length = t.a.objs.length := rfl; omega
    subst hf
    refine (ctput_any (nkm_flat hP) (CnOk2.ok ok) hn v hv hp hk).mono ?_
    rintro e w' ⟨he, t', e1, e2, hS⟩
    rw [← cnM_regs e2] at hS
    exact ⟨he, t', e1, nkm_fold hS⟩
theorem cnDo_eq (R : Int) (Bm Be : Nat) (d : DoV) (a : CnA) : (cnKm R Bm Be).step d a = cnDo R d a := rfl
theorem cndo_any {R : Int} {Bm Be : Nat} {t : CnT} {F : Nat → Prop} {W0 w : World} {L : List Item} (h : Sep F W0 w ((cnKm R Bm Be).item t :: L)) (ok : CnOk t.a) (hn : t.a.objs.length < 500) (d : DoV) :
    Calls Try.prog 43 #[.pointer (some ⟨Bm, 0, none⟩), .agg d.cells] w fun e w' => ∃ (oc : Int) (orf : Bool) (on : Int) (t' : CnT), e = .returned (.agg #[.int .i64 oc, .bool orf, .int .i64 on]) ∧ cnDo R d t.a = (⟨oc, orf, on⟩, t'.a) ∧ Sep F W0 w' ((cnKm R Bm Be).item t' :: L) := by
  refine (kdo_any (cnKm R Bm Be) (cnKm_ok R Bm Be) (s := t) (h.get 0 rfl) ⟨ok, hn⟩ d).mono ?_
  rintro e w' ⟨rfl, t', hab, hS⟩
  exact ⟨(cnDo R d t.a).1.code, (cnDo R d t.a).1.rf, (cnDo R d t.a).1.n, t', rfl, Prod.ext rfl (show (cnDo R d t.a).2 = t'.a from hab.symm), h.call 0 rfl hS⟩
end Go.Proofs.Ytjphckfbbiehdaa
