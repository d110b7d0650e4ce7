/- A memory that is copied: a value into a copy. A memory that is copied: a round begins; a new object. A memory that is copied: a new object; a value into a field. -/
import Derived.Test.YtjphckfbbiehdaaSReplicaPlays29
set_option linter.unusedSimpArgs false
set_option linter.unusedVariables false
namespace Go.Proofs.Ytjphckfbbiehdaa
open Go.RowKit Go.Maps
theorem nodup_idx {l : List Nat} (hn : l.Nodup) {i j a : Nat} (hi : l[i]? = some a) (hj : l[j]? = some a) : i = j := by
  obtain ⟨h1, e1⟩ := List.getElem?_eq_some_iff.1 hi
  obtain ⟨h2, e2⟩ := List.getElem?_eq_some_iff.1 hj
  have hp := List.pairwise_iff_getElem.1 hn
  rcases Nat.lt_trichotomy i j with h | h | h
  · exact absurd (e1.trans e2.symm) (hp i j h1 h2 h)
  · exact h
  · exact absurd (e2.trans e1.symm) (hp j i h2 h1 h)
theorem cp_set_a {t : RpT} (hn : (t.cps.map fun c => c.i).Nodup) {j : Nat} {c : Cp} (hj : t.cps[j]? = some c) (k : Nat) (v : Val) : ({ t with cps := t.cps.set j ⟨c.i, c.g, c.fs.set k v⟩ } : RpT).a = t.a.cset c.i k v := by
  have hjl := (List.getElem?_eq_some_iff.1 hj).1
  have e : cpP (t.cps.set j ⟨c.i, c.g, c.fs.set k v⟩) = cpSet (cpP t.cps) c.i k v := by
    unfold cpP cpSet
    refine List.ext_getElem? fun i => ?_
    rw [List.getElem?_map, List.getElem?_set, List.getElem?_map, List.getElem?_map]
    by_cases h : j = i
    · subst h
      rw [if_pos rfl, if_pos hjl, hj]
      simp
    · rw [if_neg h]
      cases hd : t.cps[i]? with
      | none => rfl
      | some d =>
        have hne : d.i ≠ c.i := fun e => h (nodup_idx hn (by rw [List.getElem?_map, hj]; rfl) (by rw [List.getElem?_map, hd]; exact congrArg some e))
        show some (d.i, d.fs) = some (if d.i = c.i then _ else _)
        rw [if_neg hne]
  unfold RpT.a RpA.cset
  dsimp only
  rw [e]
theorem rp_cset {F : Nat → Prop} {W0 w : World} {Be : Nat} {t : RpT} {x : Item} (h : Sep F W0 w (x :: rpR Be t)) {j : Nat} {c : Cp} (hj : t.cps[j]? = some c) (k : Nat) (v : Val) :
    Sep F W0 ((w.setCell ⟨c.g, k * 2, none⟩ (.bool v.1)).setCell ⟨c.g, k * 2 + 1, none⟩ (.int .i64 v.2)) (x :: rpR Be { t with cps := t.cps.set j ⟨c.i, c.g, c.fs.set k v⟩ }) := by
  have hjl := (List.getElem?_eq_some_iff.1 hj).1
  obtain ⟨L, hL⟩ : ∃ L, L = x :: blkI Be 190 (rpC t) :: rowI 3 1 t.Ar t.row.length t.cr (ints t.row) :: cpI t.b t.cps.length t.cps :: rowI 3 1 t.Am t.cps.length t.cm (madeV t.cps) :: sufI 254 2 t.Al t.log.length t.cl (logV t.log) :: ojL t.oj := ⟨_, rfl⟩
  have h0 : Sep F W0 w (allI (t.cps.map cpRow) :: L) := by rw [hL]; exact h.perm (List.Perm.swap _ _ _)
  have h1 : Sep F W0 w (L ++ t.cps.map cpRow) := (Sep.split h0).perm List.perm_append_comm
  have h2 := h1.focus (j := j) (t := c) hj
  have h3 := h2.store2 0 (g := c.g) rfl (k * 2) (.bool v.1) (.int .i64 v.2)
  rw [List.set_cons_zero, vals_set2] at h3
  have he : cpRow ⟨c.i, c.g, c.fs.set k v⟩ = rowI 107 2 (some ⟨c.g, 0, none⟩) c.fs.length c.fs.length (vals (c.fs.set k (v.1, v.2))) := by unfold cpRow; dsimp only; rw [List.length_set]
  rw [← he] at h3
  have h4 := h3.unfocus (l := t.cps) (j := j) hjl
  have h5 := Sep.join (l := (t.cps.set j ⟨c.i, c.g, c.fs.set k v⟩).map cpRow) (h4.perm List.perm_append_comm)
  rw [hL] at h5
  have h6 := h5.perm (l := x :: allI ((t.cps.set j ⟨c.i, c.g, c.fs.set k v⟩).map cpRow) :: _) (List.Perm.swap _ _ _)
  have e : rpR Be { t with cps := t.cps.set j ⟨c.i, c.g, c.fs.set k v⟩ } = allI ((t.cps.set j ⟨c.i, c.g, c.fs.set k v⟩).map cpRow) :: blkI Be 190 (rpC t) :: rowI 3 1 t.Ar t.row.length t.cr (ints t.row) :: cpI t.b t.cps.length t.cps :: rowI 3 1 t.Am t.cps.length t.cm (madeV t.cps) :: sufI 254 2 t.Al t.log.length t.cl (logV t.log) :: ojL t.oj := by
    have e1 : (t.cps.set j ⟨c.i, c.g, c.fs.set k v⟩).map (fun c => (c.i : Int)) = t.cps.map fun c => (c.i : Int) := by
      rw [List.map_set]
      refine List.ext_getElem? fun i => ?_
      rw [List.getElem?_set]
      split
      · rename_i e
        subst e
        rw [List.length_map, if_pos hjl, List.getElem?_map, hj]; rfl
      · rfl
    have e2 : cpI t.b t.cps.length (t.cps.set j ⟨c.i, c.g, c.fs.set k v⟩) = cpI t.b t.cps.length t.cps := by
      unfold cpI
      rw [cp_setlen _ _ _ (fun d hd => by rw [hj] at hd; obtain rfl := Option.some.inj hd; exact ⟨rfl, rfl, (List.length_set ..).symm⟩)]
    unfold rpR rpC madeV
    dsimp only
    rw [List.length_set, e1, e2]
  rw [e]
  exact h6
theorem cp_row {F : Nat → Prop} {W0 w : World} {Be : Nat} {t : RpT} {pre : List Item} (h : Sep F W0 w (pre ++ rpR Be t)) {j : Nat} {c : Cp} (hj : t.cps[j]? = some c) {k : Nat} (hk : k < c.fs.length) :
    w.cell? ⟨c.g, k * 2, none⟩ = some (.bool c.fs[k].1) ∧ w.cell? ⟨c.g, k * 2 + 1, none⟩ = some (.int .i64 c.fs[k].2) ∧ w.frozen? ⟨c.g, k * 2, none⟩ = false ∧ w.frozen? ⟨c.g, k * 2 + 1, none⟩ = false ∧ c.g < w.heap.size := by
  have h1 : (allI (t.cps.map cpRow)).P w := h.get pre.length (by rw [List.getElem?_append_right (by omega)]; simp [rpR])
  have h2 : (cpRow c).P w := h1.1 _ (List.mem_map.2 ⟨c, List.mem_of_getElem? hj, rfl⟩)
  obtain ⟨a, b, c1, d⟩ := hrow_val h2 k hk hk
  exact ⟨a, b, c1, d, (cpRow c).dom w h2 c.g rfl⟩
set_option maxRecDepth 100000 in
set_option maxHeartbeats 16000000 in
theorem rbring_any {E : Nat → Nat → Prop} {F : Nat → Prop} {W0 w : World} {Be : Nat} {t : RpT} {x : Item} (h : Sep F W0 w (x :: rpR Be t)) (ok : RpOkE E t.a) (hn : t.oj.ps.length ≤ 600) {o k : Nat} (ho : t.a.has o) (hk : k < (t.a.flds o).length) (hw : numOk (t.a.at_ o k)) :
    Calls Try.prog 141 #[.pointer (some ⟨Be, 0, none⟩), .int .i64 (o : Int), .int .i64 (k : Int)] w fun e w' => (∃ u, e = .returned u) ∧ ∃ t' : RpT, t'.a = t.a.bring o k ∧ Sep F W0 w' (x :: rpR Be t') := by
  obtain ⟨fs, hf⟩ := ok.has_fld ho
  obtain ⟨p, hp, hpf⟩ := RpT.fld hf
  rw [RpA.flds_of hf] at hk
  have hat := at_of (a := t.a) (o := o) (k := k) (by rw [RpA.flds_of hf]; exact hk)
  rw [RpA.flds_of hf] at hat
  have hvk := ok.at_vok (o := o) (k := k) ho (by rw [RpA.flds_of hf]; exact hk)
  obtain ⟨v, hv⟩ : ∃ v, t.a.at_ o k = v := ⟨_, rfl⟩
  rw [hv] at hat hvk hw
  have hfl := oj_len (pre := [x, _, _, _, _, _, _]) h hp
  have h4 := ok.f4 o fs hf
  obtain ⟨ad, hA, had, f0, f1, hob⟩ := oj_at (pre := [x, _, _, _, _, _, _]) h hp
  obtain ⟨k1, -, -, -, -, -, -, -, k8⟩ := rp_cells (pre := [x]) h
  rw [hA] at k1
  have hol := (List.getElem?_eq_some_iff.1 hp).1
  rw [hpf] at hfl
  have hkn : k < p.o.n := by omega
  obtain ⟨g5, hA5⟩ := hown_addr (show w.ownsRow 0 107 2 (.slice p.o.A p.o.n p.o.c) p.o.n (vals p.o.fields) from hob) (by omega)
  have hob2 : (rowI 107 2 (some ⟨g5, 0, none⟩) p.o.n p.o.c (vals fs)).P w := by rw [← hA5, ← hpf]; exact hob
  obtain ⟨d1, d2, -, -⟩ := hrow_val hob2 k hkn hk
  have hfk : fs[k] = v := by rw [List.getElem?_eq_getElem hk] at hat; exact Option.some.inj hat
  rw [hfk] at d1 d2
  have hg5 : g5 < w.heap.size := (rowI 107 2 (some ⟨g5, 0, none⟩) p.o.n p.o.c (vals fs)).dom w hob2 g5 rfl
  rw [hA5] at f1
  obtain ⟨gv, hgv⟩ : ∃ g, w.heap.size = g := ⟨_, rfl⟩
  have hS1 := h.blkAtF 107 #[.bool v.1, .int .i64 v.2] hgv
  have CC := hide (rcopied_any (x := allI [blkI gv 107 #[.bool v.1, .int .i64 v.2], x]) (Sep.join (l := [_, _]) hS1) ok hn v hvk hw)
  have hokc := ok.cop hvk
  have hhas : (t.a.cop v).has o := (cop_has _ _ _).2 (.inl ho)
  have HOKC := hide hokc
  have HHAS := hide hhas
  have HFC := hide (show (t.a.cop v).fld o = some fs from by unfold RpA.fld; rw [(cop_keep _ _).2.1]; exact hf)
  have HBR := hide (show t.a.bring o k = (t.a.cop v).cset o k v from by unfold RpA.bring; rw [hv])
  have HKL := hide hk
  have H4 := hide h4
  rw [HBR.out]
  obtain ⟨m, hm⟩ : ∃ m, p.o.n = m := ⟨_, rfl⟩
  obtain ⟨oC, hoC⟩ : ∃ m, p.o.c = m := ⟨_, rfl⟩
  obtain ⟨pB, hpB⟩ : ∃ m, p.B = m := ⟨_, rfl⟩
  rw [hm, hoC] at f1
  rw [hpB] at f0 f1
  rw [hm] at hkn
  obtain ⟨nO, hnO⟩ : ∃ q, t.oj.ps.length = q := ⟨_, rfl⟩
  rw [hnO] at k1 hol hn
  obtain ⟨cO, hcO⟩ : ∃ q, t.oj.c = q := ⟨_, rfl⟩
  rw [hcO] at k1
  have hm4 : m ≤ 4 := by omega
  have t1 : decide ((o : Int) < 0) = false := by simp
  have t2 : decide ((nO : Int) ≤ (o : Int)) = false := by simp; omega
  have hmx : Try.prog.follows .mixedOrders = true := by kernel_rfl
  obtain ⟨bv, mv⟩ := v
  dsimp only at d1 d2 CC
  clear h ok ho hk hw hf hp hpf hat hvk hv hfl h4 hA had hob hA5 hob2 hfk hS1 hokc hhas hm hoC hpB hnO hcO HBR
  go_enter Try.func141, Try.ntmps141
  go_wp2_with fail
  refine CC.out.mono ?_
  rintro e w5 ⟨rfl, t', hab, hS5⟩
  have hS6 : Sep F W0 w5 (blkI gv 107 #[.bool bv, .int .i64 mv] :: x :: rpR Be t') := Sep.split (l := [_, _]) hS5
  obtain ⟨x1, x2, x3, -⟩ := hS6.rules 0 (g := gv) (t := 107) rfl
  have x5 := (x1 0).trans (show _ = some (.bool bv) from rfl)
  have x6 := (x1 1).trans (show _ = some (.int .i64 mv) from rfl)
  obtain ⟨-, -, y2, -, -, -, -, -, y8⟩ := rp_cells (pre := [_, x]) hS6
  have hok' := HOKC.out
  have hhas' := HHAS.out
  rw [← hab] at hok' hhas'
  have hnd' : (t'.cps.map fun c => c.i).Nodup := by have h1 := hok'.nd; rw [show keysC t'.a.cps = _ from cpP_keys t'.cps] at h1; exact h1
  obtain ⟨j, hj⟩ := List.getElem?_of_mem (RpT.has.1 hhas')
  rw [List.getElem?_map] at hj
  obtain ⟨c, hc, hci⟩ := Option.map_eq_some_iff.1 hj
  have hcl : c.fs.length = fs.length := by
    obtain ⟨fs', hf', hl'⟩ := hok'.ck (c.i, c.fs) (List.mem_map.2 ⟨c, List.mem_of_getElem? hc, rfl⟩)
    dsimp only at hf' hl'
    rw [hci, hab, HFC.out] at hf'
    obtain rfl := Option.some.inj hf'
    exact hl'
  have hlk := (cp_look (rp_map (pre := [_, x]) hS6) hnd' o (numW (by omega) (by omega))).2.2 c (List.mem_of_getElem? hc) hci
  have hlk2 := (cp_look (rp_map (pre := [_, x]) hS6.drew) hnd' o (numW (by omega) (by omega))).2.2 c (List.mem_of_getElem? hc) hci
  have hkl := HKL.out
  obtain ⟨r0, r1, r2, r3, r4⟩ := cp_row (pre := [_, x]) hS6 hc (k := k) (by omega)
  have hST := rp_cset (x := x) (hS6.sub (List.sublist_cons_self _ _)) hc k (bv, mv)
  have HFIN := hide (show ({ t' with cps := t'.cps.set j ⟨c.i, c.g, c.fs.set k (bv, mv)⟩ } : RpT).a = (t.a.cop (bv, mv)).cset o k (bv, mv) from by rw [cp_set_a hnd' hc, hab, hci])
  have HST := hide hST
  unfold slV at hlk hlk2
  rw [hcl] at hlk hlk2
  obtain ⟨fl, hfl⟩ : ∃ q, fs.length = q := ⟨_, rfl⟩
  rw [hfl] at hlk hlk2 hkl
  obtain ⟨ov, hov⟩ : ∃ q, c.fs[k] = q := ⟨_, rfl⟩
  rw [hov] at r0 r1
  obtain ⟨cg, hcg⟩ : ∃ q, c.g = q := ⟨_, rfl⟩
  simp only [hcg] at hlk hlk2 r0 r1 r2 r3 r4 HST HFIN
  obtain ⟨mb, hmb⟩ : ∃ q, t'.b = q := ⟨_, rfl⟩
  rw [hmb] at y2 hlk hlk2
  have hfl4 : fl ≤ 4 := by have := H4.out; omega
  have t3 : decide ((k : Int) < 0) = false := by simp
  have t4 : decide ((fl : Int) ≤ (k : Int)) = false := by simp; omega
  clear hS5 hS6 x1 hok' hhas' hnd' hj hc hci hcl hST hab hfl hov hcg hmb CC HOKC HHAS HFC HKL k1 f0 f1 d1 d2
  go_wp2_with fail
  go_still_tail 8, hmx
  go_wp2_with fail
  go_end0
  exact ⟨⟨_, rfl⟩, _, HFIN.out, by first | exact HST.out | exact HST.out.drew⟩
end Go.Proofs.Ytjphckfbbiehdaa

namespace Go.Proofs.Ytjphckfbbiehdaa
open Go.RowKit Go.Maps
theorem Sep.addNil {F : Nat → Prop} {W w : World} {items : List Item} (h : Sep F W w items) (i : Item) (hP : i.P w) (hf : ∀ g, ¬ i.fp g) : Sep F W w (i :: items) :=
  h.consNew (Below.refl _ w) i hP (fun g hg => absurd hg (hf g))
theorem perm7 {α : Type} (a b c d e f g : α) : [a, b, c, d, e, f, g].Perm [e, c, f, g, d, b, a] := by
  classical
  rw [List.perm_iff_count]
  intro x
  simp only [List.count_cons, List.count_nil]
  omega
end Go.Proofs.Ytjphckfbbiehdaa

namespace Go.Proofs.Ytjphckfbbiehdaa
open Go.RowKit Go.Maps
theorem perm7b {α : Type} (a b c d e f g : α) : [a, b, c, d, e, f, g].Perm [c, a, b, d, e, f, g] := by
  classical
  rw [List.perm_iff_count]
  intro x
  simp only [List.count_cons, List.count_nil]
  omega
theorem rp_gather {F : Nat → Prop} {W w : World} {x y b r c m s : Item} {L : List Item} (h : Sep F W w (x :: y :: b :: r :: c :: m :: s :: L)) : Sep F W w [allI (b :: L), x, y, r, c, m, s] :=
  Sep.join (l := b :: L) (h.perm (((perm7b x y b r c m s).append_right L).trans (List.Perm.cons b (List.perm_append_comm (l₁ := [x, y, r, c, m, s]) (l₂ := L)))))
theorem rp_ungather {F : Nat → Prop} {W w : World} {x y b r c m s : Item} {L : List Item} (h : Sep F W w [allI (b :: L), x, y, r, c, m, s]) : Sep F W w (x :: y :: b :: r :: c :: m :: s :: L) :=
  (Sep.split (l := b :: L) h).perm (((perm7b x y b r c m s).append_right L).trans (List.Perm.cons b (List.perm_append_comm (l₁ := [x, y, r, c, m, s]) (l₂ := L)))).symm
set_option maxRecDepth 100000 in
set_option maxHeartbeats 8000000 in
theorem rpnew_any {F : Nat → Prop} {W0 w : World} {Be : Nat} {t : RpT} {x : Item} (h : Sep F W0 w (x :: rpR Be t)) (hn : t.oj.ps.length ≤ 600) (hr : t.row.length ≤ 24) {n : Nat} (h4 : n ≤ 4) :
    Calls Try.prog 274 #[.pointer (some ⟨Be, 0, none⟩), .int .i64 (n : Int)] w fun e w' => e = .returned (.tuple #[.int .i64 (rpNew t.a n).2.1, .int .i64 (rpNew t.a n).2.2]) ∧ ∃ t' : RpT, t'.a = (rpNew t.a n).1 ∧ t'.regs = t.regs ∧ Sep F W0 w' (x :: rpR Be t') := by
  obtain ⟨k1, k2, -, -, -, -, -, k7, k8⟩ := rp_cells (pre := [x]) h
  unfold rpNew
  rw [show t.a.row.length = t.row.length from rfl]
  obtain ⟨m, hm⟩ : ∃ m, t.row.length = m := ⟨_, rfl⟩
  rw [hm] at k2 hr ⊢
  by_cases hR : 24 ≤ m
  · rw [if_pos hR]
    have t1 : decide ((24 : Int) ≤ (m : Int)) = true := by simp; omega
    have HS := hide h
    clear h hm k1 k7 hR
    go_enter Try.func274, Try.ntmps274
    go_wp2_with fail
    refine bodyPost_ret (v := .tuple #[.int .i64 0, .int .i64 6]) (by simp [results, Try.results274, go_sem]) rfl ⟨rfl, t, rfl, rfl, HS.out⟩
  · rw [if_neg hR]
    have t1 : decide ((24 : Int) ≤ (m : Int)) = false := by simp; omega
    have HON := hide t.n
    have hG := rp_gather h
    have CN := onew_any ((Sep.start (hG.get 0 rfl)).flat) (s := t.oj) rfl (by omega) h4
    have HG := hide hG
    have HCN := hide CN
    have HM := hide hm
    have HFIN := hide (fun (wq : World) (A7 As : Option Addr) (c7 cA B gB : Nat) (hq : Sep F W0 wq (x :: allI (t.cps.map cpRow) :: blkI Be 190 (((rpC t).setIfInBounds 0 (t.oj.new As cA B gB n).v).setIfInBounds 1 (.slice A7 (m + 1) c7)) :: rowI 3 1 A7 (m + 1) c7 (ints t.row ++ [.int .i64 (t.oj.ps.length : Int)]) :: cpI t.b t.cps.length t.cps :: rowI 3 1 t.Am t.cps.length t.cm (madeV t.cps) :: sufI 254 2 t.Al t.log.length t.cl (logV t.log) :: ojL (t.oj.new As cA B gB n))) =>
      (show ∃ t' : RpT, t'.a = t.a.push n ∧ t'.regs = t.regs ∧ Sep F W0 wq (x :: rpR Be t') from by
        refine ⟨{ t with oj := t.oj.new As cA B gB n, Ar := A7, cr := c7, row := t.row ++ [(t.oj.ps.length : Int)] }, ?_, rfl, ?_⟩
        · unfold RpT.a RpA.push
          dsimp only
          rw [Oj.abs_new, show t.oj.abs.length = t.oj.ps.length from oj_lenabs t.oj]
        · unfold rpR rpC
          dsimp only
          rw [List.length_append, List.length_singleton, HM.out, show ints (t.row ++ [(t.oj.ps.length : Int)]) = ints t.row ++ [.int .i64 (t.oj.ps.length : Int)] from by simp [ints]]
          exact hq))
    clear h hG CN hR hm k1
    go_enter Try.func274, Try.ntmps274
    go_wp2_with fail
    refine HCN.out.mono ?_
    rintro e w9 ⟨rfl, As, cA, B, gB, hP9⟩
    have hS9 := rp_ungather (HG.out.call 0 rfl hP9.fold)
    obtain ⟨j1, j2, j3, _⟩ := hS9.rules 2 (g := Be) (t := 190) rfl
    have j5 := (j1 1).trans (show _ = some (.slice t.Ar t.row.length t.cr) from rfl)
    rw [HM.out] at j5
    have HS9 := hide (show Sep F W0 w9 (x :: allI (t.cps.map cpRow) :: blkI Be 190 ((rpC t).setIfInBounds 0 (t.oj.new As cA B gB n).v) :: rowI 3 1 t.Ar m t.cr (ints t.row) :: cpI t.b t.cps.length t.cps :: rowI 3 1 t.Am t.cps.length t.cm (madeV t.cps) :: sufI 254 2 t.Al t.log.length t.cl (logV t.log) :: ojL (t.oj.new As cA B gB n)) from by rw [← HM.out]; exact hS9)
    clear hP9 hS9 j1 HG HCN k2 k7 k8
    obtain ⟨pl, hpl⟩ : ∃ q, t.oj.ps.length = q := ⟨_, rfl⟩
    rw [hpl] at HFIN ⊢
    have HPL := hide hpl
    clear hpl
    go_wp2_with (first
      | (at_builtin
         refine wpList_app1 (cs := #[.int .i64 (pl : Int)]) rfl (.tmp 26) (.tmp 28) 35 rfl (F := F) (W := W0) sInt (items := _ :: _ :: _ :: _ :: _ :: _ :: _ :: _) HS9.out 3 (n := m) rfl rfl rfl (by simp) rfl rfl (by omega) ?_
         intro A7 c7 w7 hS7 hC7
         obtain ⟨u1, u2, u3, _⟩ := hS7.rules 2 (g := Be) (t := 190) rfl))
    have HF := hide (HFIN.out _ A7 As c7 cA B gB (hS7.set_ 2 (g := Be) (t := 190) rfl 1 (.slice A7 (m + 1) c7)))
    clear hS7 hC7 u1 HFIN HS9
    go_wp2_with fail
    refine bodyPost_ret (v := .tuple #[.int .i64 pl, .int .i64 0]) (by simp [results, Try.results274, go_sem]) rfl ⟨by rw [HON.out, HPL.out], HF.out⟩
theorem end_gather {F : Nat → Prop} {W w : World} {pre L : List Item} (h : Sep F W w (pre ++ L)) : Sep F W w (allI L :: pre) := Sep.join (l := L) (h.perm List.perm_append_comm)
theorem end_ungather {F : Nat → Prop} {W w : World} {pre L : List Item} (h : Sep F W w (allI L :: pre)) : Sep F W w (pre ++ L) := (Sep.split (l := L) h).perm List.perm_append_comm
theorem sChg : SliceT Try.prog 188 254 2 16 := SliceT.mk_ Try.underlying188 (z := .agg #[.int .i64 0, .int .i64 0]) (by kernel_rfl) rfl (by omega)
theorem logV_app (l : List (Nat × Nat)) (p : Nat × Nat) : logV (l ++ [p]) = logV l ++ [.int .i64 (p.1 : Int), .int .i64 (p.2 : Int)] := by unfold logV; rw [List.flatMap_append]; rfl
def RpT.put (t : RpT) (i k : Nat) (v : Val) (p : Po) (A : Option Addr) (c : Nat) : RpT := { t with oj := t.oj.put i k v p, Al := A, cl := c, log := t.log ++ [(i, k)] }
theorem RpT.putA {t : RpT} {i : Nat} {p : Po} (hi : t.oj.ps[i]? = some (some p)) (k : Nat) (v : Val) (A : Option Addr) (c : Nat) : (t.put i k v p A c).a = rpPut t.a i k v := by
  have hf : t.a.fld i = some p.o.fields := RpA.fld_iff.2 (by show t.oj.abs[i]? = _; unfold Oj.abs; rw [List.getElem?_map, hi]; rfl)
  unfold rpPut
  rw [RpA.flds_of hf]
  unfold RpT.put RpT.a
  dsimp only
  rw [oj_put_abs]
set_option maxRecDepth 100000 in
set_option maxHeartbeats 8000000 in
theorem rpput_any {F : Nat → Prop} {W0 w : World} {Be : Nat} {t : RpT} {x : Item} (h : Sep F W0 w (x :: rpR Be t)) (hn : t.oj.ps.length ≤ 600) (hl : t.log.length ≤ 1000) {i k : Nat} {p : Po} (v : Val) (hi : t.oj.ps[i]? = some (some p)) (hk : k < p.o.fields.length) (h4 : p.o.fields.length ≤ 4) :
    Calls Try.prog 275 #[.pointer (some ⟨Be, 0, none⟩), .int .i64 (i : Int), .int .i64 (k : Int), .agg #[.bool v.1, .int .i64 v.2]] w fun e w' => (∃ u, e = .returned u) ∧ ∃ t' : RpT, t'.a = rpPut t.a i k v ∧ t'.regs = t.regs ∧ Sep F W0 w' (x :: rpR Be t') := by
  obtain ⟨g, hg⟩ : ∃ g, w.heap.size = g := ⟨_, rfl⟩
  have hS0 := h.blkAtF 107 #[.bool v.1, .int .i64 v.2] hg
  obtain ⟨W, hW⟩ : ∃ W, w.alloc (.cells #[.bool v.1, .int .i64 v.2] 107) = W := ⟨_, rfl⟩
  rw [hW] at hS0
  obtain ⟨x1, x2, x3, x4⟩ := hS0.rules 0 (g := g) (t := 107) rfl
  have x5 := (x1 0).trans (show _ = some (.bool v.1) from rfl)
  have x6 := (x1 1).trans (show _ = some (.int .i64 v.2) from rfl)
  obtain ⟨k1, -, -, -, -, k5, -, -, k8⟩ := rp_cells (pre := [_, x]) hS0
  have hg5 := end_gather (pre := [_, x, _, _, _, _, _, _]) (L := ojL t.oj) hS0.drew
  have CP := oput_any (hg5.get 0 rfl) (by omega) v hi hk h4
  unfold Oj.v at CP
  have HPA := hide (fun (A : Option Addr) (c : Nat) => RpT.putA hi k v A c)
  have HFIN := hide (fun (wq : World) (A : Option Addr) (c : Nat) (hq : Sep F W0 wq (x :: allI (t.cps.map cpRow) :: blkI Be 190 ((rpC t).setIfInBounds 5 (.slice A (t.log.length + 1) c)) :: rowI 3 1 t.Ar t.row.length t.cr (ints t.row) :: cpI t.b t.cps.length t.cps :: rowI 3 1 t.Am t.cps.length t.cm (madeV t.cps) :: sufI 254 2 A (t.log.length + 1) c (logV t.log ++ [.int .i64 (i : Int), .int .i64 (k : Int)]) :: ojL (t.oj.put i k v p))) =>
    (show Sep F W0 wq (x :: rpR Be (t.put i k v p A c)) from by
      unfold rpR rpC RpT.put
      dsimp only
      rw [List.length_append, List.length_singleton, logV_app]
      unfold Oj.put Oj.v
      dsimp only
      rw [List.length_set]
      exact hq))
  have HG5 := hide hg5
  have HCP := hide CP
  have hmx : Try.prog.follows .mixedOrders = true := by kernel_rfl
  obtain ⟨N, hN⟩ : ∃ n, t.oj.ps.length = n := ⟨_, rfl⟩
  have HN := hide hN
  rw [hN] at k1 HCP
  obtain ⟨ll, hll⟩ : ∃ n, t.log.length = n := ⟨_, rfl⟩
  have HLL := hide hll
  rw [hll] at k5 hl HFIN
  obtain ⟨bv, mv⟩ := v
  dsimp only at x5 x6 HCP HFIN HPA HG5 hW ⊢
  have HWW := hide hW
  clear h hS0 x1 hi hk h4 hg5 CP hN hll hn hW
  go_enter Try.func275, Try.ntmps275
  go_wp2_with fail
  rw [HWW.out]
  go_region_held3 (fun w' => w'.cell? ⟨Be, 0, none⟩ = some (.slice t.oj.As N t.oj.c) ∧ w'.cell? ⟨g, 0, none⟩ = some (.bool bv) ∧ w'.cell? ⟨g, 1, none⟩ = some (.int .i64 mv)) (first | go_keep | assumption)
    ((go_at_call 266; (with_reducible refine HCP.out.mono ?_); rintro e w6 ⟨⟨u6, rfl⟩, hP6⟩; have hS6 := end_ungather (pre := [_, x, _, _, _, _, _, _]) (HG5.out.call 0 rfl hP6); obtain ⟨j1, j2, j3, _⟩ := hS6.rules 3 (g := Be) (t := 190) rfl; have j5 := (j1 5).trans (show _ = some (.slice t.Al t.log.length t.cl) from rfl); have j6 : w6.cell? ⟨Be, 0, none⟩ = some (.slice t.oj.As N t.oj.c) := by { rw [← HN.out]; exact (j1 0).trans rfl }; obtain ⟨y1, y2, y3, _⟩ := hS6.rules 0 (g := g) (t := 107) rfl; have y5 := (y1 0).trans (show _ = some (.bool bv) from rfl); have y6 := (y1 1).trans (show _ = some (.int .i64 mv) from rfl); have HS6a := hide hS6; clear hP6 hS6 j1 y1))
  have hS6 := HS6a.out
  rw [HLL.out] at j5
  have HS6 := hide (show Sep F W0 w6 (blkI g 107 #[.bool bv, .int .i64 mv] :: x :: allI (t.cps.map cpRow) :: blkI Be 190 (rpC t) :: rowI 3 1 t.Ar t.row.length t.cr (ints t.row) :: cpI t.b t.cps.length t.cps :: rowI 3 1 t.Am t.cps.length t.cm (madeV t.cps) :: sufI 254 2 t.Al ll t.cl (logV t.log) :: ojL (t.oj.put i k (bv, mv) p)) from by rw [← HLL.out]; exact hS6)
  clear HS6a hS6 HG5 HCP k1 k5
  go_wp2_with (first
    | (at_builtin
       refine wpList_suf1 (cs := #[.int .i64 (i : Int), .int .i64 (k : Int)]) rfl (.tmp 20) (.tmp 24) 188 rfl (F := F) (W := W0) sChg (items := _ :: _ :: _ :: _ :: _ :: _ :: _ :: _ :: _) HS6.out 7 (n := ll) rfl rfl rfl (by simp) rfl rfl (by omega) ?_
       intro A7 c7 w7 hS7
       obtain ⟨u1, u2, u3, _⟩ := hS7.rules 3 (g := Be) (t := 190) rfl))
  have HF := hide (HFIN.out _ A7 c7 ((hS7.set_ 3 (g := Be) (t := 190) rfl 5 (.slice A7 (ll + 1) c7)).sub (List.sublist_cons_self _ _)))
  have HAF := hide (HPA.out A7 c7)
  clear hS7 u1 HFIN HS6 HPA
  go_wp2_with fail
  go_end0
  exact ⟨⟨_, rfl⟩, _, HAF.out, rfl, HF.out⟩
set_option maxRecDepth 100000 in
theorem rphold_any {F : Nat → Prop} {W0 w : World} {items : List Item} (h : Sep F W0 w items) (x : Value) (r : Nat) (v : Val) : Calls Try.prog 273 #[x, .int .i64 (r : Int), .agg #[.bool v.1, .int .i64 v.2]] w fun e w' => (∃ u, e = .returned u) ∧ Sep F W0 w' items := by
  have HS := hide (h.alloc (.cells #[.bool v.1, .int .i64 v.2] 107))
  clear h
  go_enter Try.func273, Try.ntmps273
  go_wp2_with fail
  go_end0
  exact ⟨⟨_, rfl⟩, HS.out⟩
end Go.Proofs.Ytjphckfbbiehdaa
