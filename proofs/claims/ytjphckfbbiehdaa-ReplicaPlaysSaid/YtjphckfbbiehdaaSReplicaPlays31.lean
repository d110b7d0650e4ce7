/- A memory that is copied, as a machine sees it. A memory that is copied: the first of some values that gets a copy. A memory that is copied: a step, where a change waits, or a register's object gets a copy. A memory that is copied: a step, where a register's object gets a copy. -/
import Derived.Test.YtjphckfbbiehdaaSReplicaPlays30
import Derived.Deep.DeepCutAuto
set_option linter.unusedSimpArgs false
set_option linter.unusedVariables false
namespace Go.Proofs.Ytjphckfbbiehdaa
open Go.RowKit Go.Maps
structure RpOk2 (a : RpA) : Prop where
  ok : RpOk a
  n : a.objs.length ≤ 500
  l : a.log.length ≤ 900
def rpM (Be Bm : Nat) (t : RpT) : Item := blkI Bm 113 (mcCells t.regs (.iface 186 (.pointer (some ⟨Be, 0, none⟩))))
def rpKm (Bm Be : Nat) : MemK where
  A := RpA
  St := RpT
  abs := RpT.a
  Bm := Bm
  T := 186
  p := .pointer (some ⟨Be, 0, none⟩)
  regs := RpA.regs
  fld := RpA.fld
  rest t := rpR Be t
  ok := RpOk2
  ok1 a := RpOk a ∧ a.objs.length < 500 ∧ a.log.length ≤ 900
  hold a _ _ := a
  setr := RpA.sr
  new_ a n := rpNew a n
  put := rpPut
  fH := 273
  fN := 274
  fL := 264
  fG := 262
  fP := 275
  rL t := t.oj.v
  rG t := t.oj.v
  rP _ := .pointer (some ⟨Be, 0, none⟩)
theorem pmeth_hold (x : Value) (w : World) : (method 455 186 x "Hold").run Try.prog w = .ok (273, x) w := by kernel_rfl
theorem pmeth_new (x : Value) (w : World) : (method 455 186 x "New").run Try.prog w = .ok (274, x) w := by kernel_rfl
theorem pmeth_put (x : Value) (w : World) : (method 455 186 x "Put").run Try.prog w = .ok (275, x) w := by kernel_rfl
theorem pmeth_len0 (Be : Nat) (w : World) : (method 455 186 (.pointer (some ⟨Be, 0, none⟩)) "Len").run Try.prog w = (Sem.run Try.prog (do let v ← receiverAt 101 (.var ⟨Be, 0, none⟩) false none; pure (264, v)) w) := by kernel_rfl
theorem pmeth_get0 (Be : Nat) (w : World) : (method 455 186 (.pointer (some ⟨Be, 0, none⟩)) "Get").run Try.prog w = (Sem.run Try.prog (do let v ← receiverAt 101 (.var ⟨Be, 0, none⟩) false none; pure (262, v)) w) := by kernel_rfl
theorem pmeth_len (Be : Nat) (v : Value) (w : World) (h : w.cell? ⟨Be, 0, none⟩ = some v) : (method 455 186 (.pointer (some ⟨Be, 0, none⟩)) "Len").run Try.prog w = .ok (264, v) w := by
  rw [pmeth_len0, Sem.run_bind, recv_cell Be w v h]; rfl
theorem pmeth_get (Be : Nat) (v : Value) (w : World) (h : w.cell? ⟨Be, 0, none⟩ = some v) : (method 455 186 (.pointer (some ⟨Be, 0, none⟩)) "Get").run Try.prog w = .ok (262, v) w := by
  rw [pmeth_get0, Sem.run_bind, recv_cell Be w v h]; rfl
theorem pkm_flat {Bm Be : Nat} {t : RpT} {w : World} (hP : ((rpKm Bm Be).item t).P w) : Sep ((rpKm Bm Be).item t).fp w w (rpM Be Bm t :: rpR Be t) := (Sep.start hP).flat
theorem pkm_fold {Bm Be : Nat} {t : RpT} {F : Nat → Prop} {W0 w : World} (h : Sep F W0 w (rpM Be Bm t :: rpR Be t)) : Sep F W0 w [(rpKm Bm Be).item t] := Sep.fold (l := (rpKm Bm Be).items t) h
theorem rpM_regs {Be Bm : Nat} {t t' : RpT} (h : t'.regs = t.regs) : rpM Be Bm t' = rpM Be Bm t := by unfold rpM; rw [h]
set_option maxHeartbeats 1000000 in
theorem rpKm_ok (Bm Be : Nat) : (rpKm Bm Be).Ok where
  r8 _ ok := RpOkE.r8 (RpOk2.ok ok)
  vr _ v ok hv := RpOkE.vr (RpOk2.ok ok) v hv
  vf _ i fs v ok h hv := RpOkE.vf (RpOk2.ok ok) i fs h v hv
  f4 _ i fs ok h := RpOkE.f4 (RpOk2.ok ok) i fs h
  lim _ i fs ok h := by have h1 := RpA.fld_lt h; have h2 := RpOk2.n ok; omega
  set_ t r v := ⟨{ t with regs := t.regs.set r v }, rfl, rfl⟩
  regs_set _ _ _ := rfl
  regs_hold _ _ _ := rfl
  regs_put _ _ _ _ := rfl
  eH := kenter_of Try.func273 (by kernel_rfl) rfl
  eN := kenter_of Try.func274 (by kernel_rfl) rfl
  eL := kenter_of Try.func264 (by kernel_rfl) rfl
  eG := kenter_of Try.func262 (by kernel_rfl) rfl
  eP := kenter_of Try.func275 (by kernel_rfl) rfl
  mH w := pmeth_hold _ w
  mN w := pmeth_new _ w
  mL t w hP := pmeth_len Be _ w (rp_cells (pre := [_]) (pkm_flat hP)).1
  mG t w hP := pmeth_get Be _ w (rp_cells (pre := [_]) (pkm_flat hP)).1
  mP _ w _ := pmeth_put _ w
  cH t w r v hP ok hr hv := by
    refine (rphold_any (pkm_flat hP) _ r v).mono ?_
    rintro e w' ⟨he, hS⟩
    exact ⟨he, t, rfl, pkm_fold hS⟩
  cN t w n hP ok h4 := by
    have hn : t.oj.ps.length ≤ 600 := by have h1 := RpOk2.n ok; have h2 := t.n; have h3 : (RpA.objs ((rpKm Bm Be).abs t)).length = t.a.objs.length := rfl; omega
    refine (rpnew_any (pkm_flat hP) hn (RpOkE.r24 (RpOk2.ok ok)) h4).mono ?_
    rintro e w' ⟨he, t', e1, e2, hS⟩
    rw [← rpM_regs e2] at hS
    exact ⟨he, t', e1, pkm_fold hS⟩
  ok_of _ h := ⟨h.1, by have := h.2.1; omega, h.2.2⟩
  okN a n h h4 := by
    obtain ⟨k1, k2, _, k4⟩ := RpOk.new_ h.1 h4
    refine ⟨⟨k1, by show (rpNew a n).1.objs.length ≤ 500; have := h.2.1; omega, ?_⟩, k2⟩
    show (rpNew a n).1.log.length ≤ 900
    unfold rpNew
    split
    · exact h.2.2
    · exact h.2.2
  cL t w i fs hP ok h := by
    obtain ⟨p, hp, hf⟩ := RpT.fld h
    have hS := pkm_flat hP
    have hl := oj_len (pre := [_, _, _, _, _, _, _]) hS hp
    have hn : t.oj.ps.length ≤ 600 := by have h1 := RpOk2.n ok; have h2 := t.n; have h3 : (RpA.objs ((rpKm Bm Be).abs t)).length = t.a.objs.length := rfl; omega
    refine (olen_any (pre := [_, _, _, _, _, _, _]) hS (by omega) hp).mono fun e w' ⟨he, hw⟩ => ⟨?_, hw⟩
    rw [he, ← hf, hl]
  cG t w i k fs hk hP ok h := by
    obtain ⟨p, hp, hf⟩ := RpT.fld h
    have hS := pkm_flat hP
    have hn : t.oj.ps.length ≤ 600 := by have h1 := RpOk2.n ok; have h2 := t.n; have h3 : (RpA.objs ((rpKm Bm Be).abs t)).length = t.a.objs.length := rfl; omega
    have h4 := RpOkE.f4 (RpOk2.ok ok) i fs h
    subst hf
    exact oget_any (pre := [_, _, _, _, _, _, _]) hS (by omega) hp hk h4
  cP t w i k fs v hk hP ok h hv := by
    obtain ⟨p, hp, hf⟩ := RpT.fld h
    have hn : t.oj.ps.length ≤ 600 := by have h1 := RpOk2.n ok; have h2 := t.n; have h3 : (RpA.objs ((rpKm Bm Be).abs t)).length = t.a.objs.length := rfl; omega
    have h4 := RpOkE.f4 (RpOk2.ok ok) i fs h
    have hl := RpOk2.l ok
    subst hf
    refine (rpput_any (pkm_flat hP) hn (by have h3 : (RpA.log ((rpKm Bm Be).abs t)).length = t.log.length := rfl; omega) v hp hk h4).mono ?_
    rintro e w' ⟨he, t', e1, e2, hS⟩
    rw [← rpM_regs e2] at hS
    exact ⟨he, t', e1, pkm_fold hS⟩
theorem rpdo_any {Bm Be : Nat} {t : RpT} {F : Nat → Prop} {W0 w : World} {L : List Item} (h : Sep F W0 w ((rpKm Bm Be).item t :: L)) (ok : RpOk t.a) (hn : t.a.objs.length < 500) (hl : t.a.log.length ≤ 900) (d : DoV) :
    Calls Try.prog 43 #[.pointer (some ⟨Bm, 0, none⟩), .agg d.cells] w fun e w' => ∃ (oc : Int) (orf : Bool) (on : Int) (t' : RpT), e = .returned (.agg #[.int .i64 oc, .bool orf, .int .i64 on]) ∧ rpDo d t.a = (⟨oc, orf, on⟩, t'.a) ∧ Sep F W0 w' ((rpKm Bm Be).item t' :: L) := by
  refine (kdo_any (rpKm Bm Be) (rpKm_ok Bm Be) (s := t) (h.get 0 rfl) ⟨ok, hn, hl⟩ d).mono ?_
  rintro e w' ⟨rfl, t', hab, hS⟩
  exact ⟨(rpDo d t.a).1.code, (rpDo d t.a).1.rf, (rpDo d t.a).1.n, t', rfl, Prod.ext rfl (show (rpDo d t.a).2 = t'.a from hab.symm), h.call 0 rfl hS⟩
end Go.Proofs.Ytjphckfbbiehdaa

namespace Go.Proofs.Ytjphckfbbiehdaa
open Go.RowKit Go.Maps
def missL (a : RpA) (l : List Val) : Option Val := l.find? fun v => v.1 && !decide (a.has v.2.toNat)
theorem missL_no {a : RpA} {l : List Val} (h : ∀ v ∈ l, (v.1 && !decide (a.has v.2.toNat)) = false) : missL a l = none := List.find?_eq_none.2 fun v hv => by rw [h v hv]; simp
theorem missL_yes {a : RpA} {l : List Val} {k : Nat} (hk : k < l.length) (h : ∀ v ∈ l.take k, (v.1 && !decide (a.has v.2.toNat)) = false) (hv : (l[k].1 && !decide (a.has l[k].2.toNat)) = true) : missL a l = some l[k] := by
  have e : l = l.take k ++ l[k] :: l.drop (k + 1) := by rw [← List.drop_eq_getElem_cons hk, List.take_append_drop]
  have h1 : (l.take k ++ l[k] :: l.drop (k + 1)).find? (fun v => v.1 && !decide (a.has v.2.toNat)) = some l[k] := by
    rw [List.find?_append, missL_no h |> (fun x => (x : (l.take k).find? _ = none)), Option.none_or, List.find?_cons, hv]
  unfold missL
  rw [← e] at h1
  exact h1
def RpA.copM (a : RpA) (o : Option Val) : RpA := match o with
  | some v => a.cop v
  | none => a
set_option maxRecDepth 100000 in
set_option maxHeartbeats 8000000 in
theorem rpindex_any {F : Nat → Prop} {W0 w : World} {Be : Nat} {t : RpT} {x : Item} {A : Option Addr} {n c : Nat} {regs : List Val} (h : Sep F W0 w (x :: rpR Be t)) (ok : RpOk t.a) (hps : t.oj.ps.length ≤ 600) (hn : n ≤ 1000) (hrl : regs.length = n) (hx : ∀ X, x.P X → Rd X (fun _ => True) 2 A n (vals regs)) (hvk : ∀ v ∈ regs, t.a.vok v ∧ numOk v) :
    Calls Try.prog 177 #[.slice A n c, .func (.func 143) #[.pointer (some ⟨Be, 0, none⟩)] #[]] w fun e w' => (∃ r : Int, e = .returned (.int .i64 r) ∧ (0 ≤ r ↔ (missL t.a regs).isSome = true)) ∧ ∃ t' : RpT, t'.a = t.a.copM (missL t.a regs) ∧ Sep F W0 w' (x :: rpR Be t') := by
  have HL := hide hrl
  have HS := hide h
  have HX := hide hx
  have HV := hide hvk
  have HOK := hide ok
  have HPS := hide (show ∀ t' : RpT, t'.a = t.a → t'.oj.ps.length ≤ 600 from fun t' e => by rw [← t'.n, e, t.n]; exact hps)
  clear h hrl hx hvk ok hps
  go_enter Try.func177, Try.ntmps177
  go_wp2_with fail
  go_loopw [5, 8] (fun _ i wr => ∃ (k : Nat) (t' : RpT), k ≤ n ∧ i = .int .i64 k ∧ Hid (t'.a = t.a ∧ ∀ v ∈ regs.take k, (v.1 && !decide (t.a.has v.2.toNat)) = false) ∧ Sep F W0 wr (x :: rpR Be t')) (fun _ i _ => n - (intOf i).toNat)
  case atStart => exact ⟨0, t, by omega, rfl, ⟨rfl, fun v hv => by simp at hv⟩, HS.out⟩
  case round =>
    clear HS
    obtain ⟨k, t', hk, rfl, HI, hS⟩ := hrel
    obtain ⟨hab, hnot⟩ := HI.out
    by_cases hlt : k < n
    · have hkl : k < regs.length := by rw [HL.out]; exact hlt
      obtain ⟨ad, hA, _, had, hc, hd⟩ := (HX.out wr (hS.get 0 rfl)).atN hlt
      obtain ⟨v0, v1⟩ := vals_at regs k hkl
      have e0 := hc _ v0
      have e1 := hd 0 _ v1
      have hvv := HV.out _ (List.getElem_mem hkl)
      have hT := List.take_succ_eq_append_getElem hkl
      have C := rcopied_any hS (by rw [hab]; exact HOK.out) (HPS.out t' hab) regs[k] (by rw [hab]; exact hvv.1) hvv.2
      rw [hab] at C
      have HY := hide (fun (h : (regs[k].1 && !decide (t.a.has regs[k].2.toNat)) = true) => missL_yes hkl hnot h)
      have HNT := hide hnot
      obtain ⟨v, hv⟩ : ∃ v, regs[k] = v := ⟨_, rfl⟩
      rw [hv] at e0 e1 C HY hT
      have HT := hide hT
      have HC := hide C
      subst hA
      clear hc hd v0 v1 hvv hT hv C hS hnot hkl
      obtain ⟨b, hb⟩ : ∃ b, (v.1 && !decide (t.a.has v.2.toNat)) = b := ⟨_, rfl⟩
      have HBB := hide hb
      simp only [hb] at HC HY
      have HNO := hide (show b = false → t.a.cop v = t.a from fun h0 => cop_no (by
        rw [h0] at hb
        cases hv1 : v.1 with
        | false => exact .inl rfl
        | true => rw [hv1] at hb; exact .inr (by simpa using hb)))
      clear hb
      obtain ⟨bv, mv⟩ := v
      dsimp only at e0 e1 HC HY HT HBB HNO
      go_wp2_with fail
      refine HC.out.mono ?_
      rintro e w1 ⟨rfl, t2, hab2, hS2⟩
      have HS2 := hide hS2
      have HA2 := hide hab2
      clear hS2 hab2 HC
      cases b with
      | true =>
        have HM := hide (HY.out rfl)
        clear HY HNO
        go_wp2_with fail
        go_ret
        exact ⟨⟨k, rfl, ⟨fun _ => by rw [HM.out]; rfl, fun _ => by omega⟩⟩, t2, by rw [HM.out]; exact HA2.out, HS2.out⟩
      | false =>
        have HN2 := hide (HNO.out rfl)
        clear HY HNO
        go_wp2_with fail
        go_roundw
        case rel => exact ⟨k + 1, t2, by omega, by go_num, ⟨by rw [HA2.out, HN2.out], fun v hv => by
          rw [HT.out] at hv
          rcases List.mem_append.1 hv with h3 | h3
          · exact HNT.out v h3
          · rw [List.mem_singleton.1 h3]; exact HBB.out⟩, HS2.out⟩
        case measure => simp [intOf]; omega
    · rw [List.take_of_length_le (by rw [HL.out]; omega)] at hnot
      have HM := hide (missL_no hnot)
      have HS := hide hS
      clear hnot hS
      go_wp2_with fail
      go_ret
      exact ⟨⟨-1, rfl, ⟨fun h => by omega, fun h => by rw [HM.out] at h; cases h⟩⟩, t', by rw [HM.out]; exact hab, HS.out⟩
end Go.Proofs.Ytjphckfbbiehdaa

namespace Go.Proofs.Ytjphckfbbiehdaa
open Go.RowKit Go.Maps
set_option maxRecDepth 100000 in
set_option maxHeartbeats 4000000 in
theorem rpcontains_any {F : Nat → Prop} {W0 w : World} {Be : Nat} {t : RpT} {x : Item} {A : Option Addr} {n c : Nat} {regs : List Val} (h : Sep F W0 w (x :: rpR Be t)) (ok : RpOk t.a) (hps : t.oj.ps.length ≤ 600) (hn : n ≤ 1000) (hrl : regs.length = n) (hx : ∀ X, x.P X → Rd X (fun _ => True) 2 A n (vals regs)) (hvk : ∀ v ∈ regs, t.a.vok v ∧ numOk v) :
    Calls Try.prog 142 #[.slice A n c, .func (.func 143) #[.pointer (some ⟨Be, 0, none⟩)] #[]] w fun e w' => e = .returned (.bool (missL t.a regs).isSome) ∧ ∃ t' : RpT, t'.a = t.a.copM (missL t.a regs) ∧ Sep F W0 w' (x :: rpR Be t') := by
  have C := hide (rpindex_any (c := c) h ok hps hn hrl hx hvk)
  clear h ok hps hn hrl hx hvk
  go_enter Try.func142, Try.ntmps142
  go_wp2_with fail
  refine C.out.mono ?_
  rintro e w1 ⟨⟨r, rfl, hr⟩, t', ht, hS⟩
  have hb : (missL t.a regs).isSome = decide (0 ≤ r) := by
    rw [Bool.eq_iff_iff, decide_eq_true_eq]; exact hr.symm
  have HB := hide hb
  have HT := hide ht
  have HS := hide hS
  clear hb hr ht hS C
  go_wp2_with fail
  go_ret
  exact ⟨ret_bool HB.out.symm, t', HT.out, HS.out⟩
theorem rd_blk {w : World} {g T n size : Nat} {cs : Array Value} (h : Blk w g T cs) (hs : cs.size = n * size) (hm : n ≤ maxLen) : Rd w (fun _ => True) size (some ⟨g, 0, none⟩) n cs.toList :=
  Rd.of_own (show w.ownsRow 0 T size (.slice (some ⟨g, 0, none⟩) n n) n cs.toList from hrow_of_blk h hs hm) (fun _ _ => trivial)
def regC (regs : List Val) : Array Value := (vals regs).toArray
/-- The change that waits first is taken off. -/
def RpT.tl (t : RpT) (l : List (Nat × Nat)) : RpT := { t with Al := (if t.cl = 1 then t.Al else t.Al.map (·.add (1 * 2))), cl := t.cl - 1, log := l }
theorem rp_tail {F : Nat → Prop} {W0 w : World} {Be : Nat} {t : RpT} {x : Item} (h : Sep F W0 w (x :: rpR Be t)) {p : Nat × Nat} {l : List (Nat × Nat)} (hl : t.log = p :: l) :
    Sep F W0 (w.setCell ⟨Be, 5, none⟩ (.slice (t.tl l).Al l.length (t.cl - 1))) (x :: rpR Be (t.tl l)) := by
  have e1 : t.log.length = l.length + 1 := by rw [hl]; rfl
  have e2 : logV t.log = .int .i64 (p.1 : Int) :: .int .i64 (p.2 : Int) :: logV l := by rw [hl]; rfl
  have h0 : Sep F W0 w (x :: allI (t.cps.map cpRow) :: blkI Be 190 (rpC t) :: rowI 3 1 t.Ar t.row.length t.cr (ints t.row) :: cpI t.b t.cps.length t.cps :: rowI 3 1 t.Am t.cps.length t.cm (madeV t.cps) :: sufI 254 2 t.Al (l.length + 1) t.cl (.int .i64 (p.1 : Int) :: .int .i64 (p.2 : Int) :: logV l) :: ojL t.oj) := by
    rw [← e1, ← e2]; exact h
  have h1 := h0.sufTail 6 rfl (by omega)
  have h2 := h1.set_ 2 (g := Be) (t := 190) rfl 5 (.slice (t.tl l).Al l.length (t.cl - 1))
  exact h2
theorem rp_log {F : Nat → Prop} {W0 w : World} {Be : Nat} {t : RpT} {pre : List Item} (h : Sep F W0 w (pre ++ rpR Be t)) {p : Nat × Nat} {l : List (Nat × Nat)} (hl : t.log = p :: l) :
    ∃ lg off, t.Al = some ⟨lg, off, none⟩ ∧ w.cell? ⟨lg, off, none⟩ = some (.int .i64 (p.1 : Int)) ∧ w.cell? ⟨lg, off + 1, none⟩ = some (.int .i64 (p.2 : Int)) ∧ lg < w.heap.size ∧ 1 ≤ t.cl := by
  have hP : (sufI 254 2 t.Al t.log.length t.cl (logV t.log)).P w := h.get (pre.length + 5) (by rw [List.getElem?_append_right (by omega)]; simp [rpR])
  have hle := suf_le hP
  rw [hl] at hP hle
  rcases hP.2 with ⟨_, h0, _⟩ | ⟨g, off, cur, hA, _⟩
  · cases h0
  · obtain ⟨ad, e1, _, hb, hc⟩ := (suf_rd hP).2 (by simp)
    rw [hA] at e1
    injection e1 with e1
    subst e1
    have c0 := hc 0 (.int .i64 (p.1 : Int)) rfl
    have c1 := hc 1 (.int .i64 (p.2 : Int)) rfl
    rw [suf_addr] at c0 c1
    exact ⟨g, off, hA, c0, c1, hb, by simp at hle; omega⟩
set_option maxRecDepth 100000 in
set_option maxHeartbeats 16000000 in
theorem rwork_log {F : Nat → Prop} {W0 w : World} {Be : Nat} {t : RpT} {x : Item} (h : Sep F W0 w (x :: rpR Be t)) (ok : RpOk t.a) (hps : t.oj.ps.length ≤ 600) (hnum : ∀ i fs, t.a.fld i = some fs → ∀ v ∈ fs, numOk v) {o k : Nat} {l : List (Nat × Nat)} (hl : t.log = (o, k) :: l) (hll : t.log.length ≤ 1000) (p0 p1 p2 p3 p4 p5 p6 p7 : Val) :
    Calls Try.prog 84 #[.pointer (some ⟨Be, 0, none⟩), .agg #[.bool p0.1, .int .i64 p0.2, .bool p1.1, .int .i64 p1.2, .bool p2.1, .int .i64 p2.2, .bool p3.1, .int .i64 p3.2, .bool p4.1, .int .i64 p4.2, .bool p5.1, .int .i64 p5.2, .bool p6.1, .int .i64 p6.2, .bool p7.1, .int .i64 p7.2]] w fun e w' => (∃ u, e = .returned u) ∧ ∃ t' : RpT, t'.a = t.a.work ∧ Sep F W0 w' (x :: rpR Be t') := by
  obtain ⟨g, hg⟩ : ∃ g, w.heap.size = g := ⟨_, rfl⟩
  obtain ⟨W, hW⟩ : ∃ W, w.alloc (.cells #[.bool p0.1, .int .i64 p0.2, .bool p1.1, .int .i64 p1.2, .bool p2.1, .int .i64 p2.2, .bool p3.1, .int .i64 p3.2, .bool p4.1, .int .i64 p4.2, .bool p5.1, .int .i64 p5.2, .bool p6.1, .int .i64 p6.2, .bool p7.1, .int .i64 p7.2] 109) = W := ⟨_, rfl⟩
  have HW := hide hW
  have hS0 : Sep F W0 W (x :: rpR Be t) := by rw [← hW]; exact h.alloc _
  obtain ⟨lg, off, hA, c0, c1, c2, hc1⟩ := rp_log (pre := [x]) hS0 hl
  obtain ⟨-, -, k2, -, -, k5, -, k7, k8⟩ := rp_cells (pre := [x]) hS0
  obtain ⟨gc, hgc⟩ : ∃ g, W.heap.size = g := ⟨_, rfl⟩
  have hS1 := hS0.blkAtF 254 #[.int .i64 (o : Int), .int .i64 (k : Int)] hgc
  have hS2 := Sep.split (l := [_, x]) (rp_tail (Sep.join (l := [_, x]) hS1) hl)
  obtain ⟨X, hX⟩ : ∃ X, (W.alloc (.cells #[.int .i64 (o : Int), .int .i64 (k : Int)] 254)).setCell ⟨Be, 5, none⟩ (.slice (t.tl l).Al l.length (t.cl - 1)) = X := ⟨_, rfl⟩
  rw [hX] at hS2
  obtain ⟨-, -, -, -, -, q5, -, q7, q8⟩ := rp_cells (pre := [_, x]) hS1
  obtain ⟨z1, z2, z3, -⟩ := hS1.rules 0 (g := gc) (t := 254) rfl
  obtain ⟨-, -, y2, -, -, -, -, -, y8⟩ := rp_cells (pre := [_, x]) hS2
  obtain ⟨x1, x2, x3, -⟩ := hS2.rules 0 (g := gc) (t := 254) rfl
  have x5 := (x1 0).trans (show _ = some (.int .i64 (o : Int)) from rfl)
  have x6 := (x1 1).trans (show _ = some (.int .i64 (k : Int)) from rfl)
  have hwk : t.a.work = if t.a.has o then (t.a.nl l).bring o k else t.a.nl l := by
    unfold RpA.work
    rw [show t.a.log = (o, k) :: l from hl]
  obtain ⟨fs, hf, hk⟩ := ok.lg (o, k) (by rw [show t.a.log = (o, k) :: l from hl]; exact List.mem_cons_self ..)
  dsimp only at hf hk
  have hol : o < t.a.objs.length := RpA.fld_lt hf
  rw [t.n] at hol
  have hnd : (t.cps.map fun c => c.i).Nodup := by have h1 := RpOkE.nd ok; rw [show keysC t.a.cps = _ from cpP_keys t.cps] at h1; exact h1
  have hlk := fun m => cp_look (l := t.cps) (rp_map (t := t.tl l) (pre := [_, x]) (hS2.drewN m)) hnd o (numW (by omega) (by omega))
  have hokn : RpOkE (fun o' j => o' = o ∧ j = k) (t.tl l).a := ok.nl (show t.a.log = (o, k) :: l from hl)
  have HC := hide (fun (hh : t.a.has o) (wq : World) (hq : Sep F W0 wq (allI [blkI gc 254 #[.int .i64 (o : Int), .int .i64 (k : Int)], x] :: rpR Be (t.tl l))) => rbring_any hq hokn hps (o := o) (k := k) hh (by show k < (t.a.flds o).length; rw [RpA.flds_of hf]; exact hk) (by
    have h1 := at_of (a := t.a) (o := o) (k := k) (by rw [RpA.flds_of hf]; exact hk)
    rw [RpA.flds_of hf] at h1
    exact hnum o fs hf _ (List.mem_of_getElem? h1)))
  have HS2 := hide hS2
  have HWK := hide hwk
  have HS2d := hide (fun m => hS2.drewN m)
  rw [hA] at k5 q5
  obtain ⟨n, hn⟩ : ∃ n, t.log.length = n := ⟨_, rfl⟩
  have hnl : l.length = n - 1 := by rw [← hn, hl]; simp
  have hn1 : 1 ≤ n := by rw [← hn, hl]; simp
  rw [hn] at k5 q5 hll
  obtain ⟨C, hC⟩ : ∃ C, t.cl = C := ⟨_, rfl⟩
  rw [hC] at k5 q5 hc1
  have hEX : (W.alloc (.cells #[.int .i64 (o : Int), .int .i64 (k : Int)] 254)).setCell ⟨Be, 5, none⟩ (.slice (if C = 1 then some ⟨lg, off, none⟩ else some ⟨lg, off + 2, none⟩) (n - 1) (C - 1)) = X := by
    rw [← hX, ← hnl, ← hC]
    unfold RpT.tl
    dsimp only
    rw [hA, Option.map_some, suf_addr]
  obtain ⟨mb, hmb⟩ : ∃ q, t.b = q := ⟨_, rfl⟩
  rw [hmb] at k2
  have y2' : X.cell? ⟨Be, 2, none⟩ = some (.map (some mb)) := by rw [← hmb]; exact y2
  have t1 : decide ((0 : Int) < (n : Int)) = true := by simp; omega
  have HEX := hide hEX
  have n1 : gc ≠ Be := by omega
  have n2 : Be ≠ gc := by omega
  have n3 : lg ≠ gc := by omega
  clear h ok hnum hl hW hS0 hA hS1 hS2 hX z1 y2 x1 hwk hf hk hnd hokn hn hC hEX hps
  by_cases hh : t.a.has o
  · obtain ⟨c, hc, hci⟩ := List.mem_map.1 (RpT.has.1 hh)
    have hlk1 : ∀ m, (Instr.lookup 187 (.map (some mb)) (.int .i64 (o : Int)) true).run Try.prog (X.drewN m) = .ok (.tuple #[.slice (some ⟨c.g, 0, none⟩) c.fs.length c.fs.length, .bool true]) (X.drewN m) := fun m => by
      rw [← hmb]
      exact (hlk m).1 c hc hci
    have HC1 := hide (HC.out hh)
    have hwk := HWK.out
    rw [if_pos hh] at hwk
    have HWK1 := hide hwk
    obtain ⟨cg, hcg⟩ : ∃ q, c.g = q := ⟨_, rfl⟩
    obtain ⟨cl, hcl⟩ : ∃ q, c.fs.length = q := ⟨_, rfl⟩
    simp only [hcg, hcl] at hlk1
    clear hlk hc hci hmb HC hwk HWK hh hcg hcl
    rcases Decidable.em (C = 1) with hC1 | hC1
    all_goals
      have hEX := HEX.out
      have HEX1 := HEX
      clear HEX
      first
        | subst hC1; rw [if_pos rfl, Nat.sub_self] at hEX
        | rw [if_neg hC1] at hEX
      have HEX := hide hEX
      clear hEX HEX1
      go_enter Try.func84, Try.ntmps84
      go_upto_region 1 with fail
      rw [HW.out]
      go_upto_region 4 with fail
      rw [HEX.out]
      go_quiet (fail)
      go_wp2_with fail
      refine (HC1.out _ (Sep.join (l := [_, x]) (by first | exact HS2.out | exact HS2d.out _))).mono ?_
      rintro e w5 ⟨⟨u, rfl⟩, t5, hab, hS5⟩
      have HS5 := hide (Sep.split (l := [_, x]) hS5)
      have HA := hide hab
      clear hS5 hab
      go_wp2_with fail
      (try simp only [Exit.inBlock, Exit.then]); refine bodyPost_ret (results_none rfl _ _ _) rfl ?_
      exact ⟨⟨_, rfl⟩, t5, HA.out.trans HWK1.out.symm, HS5.out.sub (List.sublist_cons_self _ _)⟩
  · have hlk1 := fun m => (hlk m).2.1 (fun h => hh (RpT.has.2 h))
    rw [show (t.tl l).b = mb from hmb] at hlk1
    have hwk := HWK.out
    rw [if_neg hh] at hwk
    have HWK1 := hide hwk
    clear hlk hmb HC hwk HWK hh
    rcases Decidable.em (C = 1) with hC1 | hC1
    all_goals
      have hEX := HEX.out
      have HEX1 := HEX
      clear HEX
      first
        | subst hC1; rw [if_pos rfl, Nat.sub_self] at hEX
        | rw [if_neg hC1] at hEX
      have HEX := hide hEX
      clear hEX HEX1
      go_enter Try.func84, Try.ntmps84
      go_upto_region 1 with fail
      rw [HW.out]
      go_upto_region 4 with fail
      rw [HEX.out]
      go_quiet (fail)
      go_wp2_with fail
      (try simp only [Exit.inBlock, Exit.then]); refine bodyPost_ret (results_none rfl _ _ _) rfl ?_
      exact ⟨⟨_, rfl⟩, t.tl l, HWK1.out.symm, by first | exact HS2.out.sub (List.sublist_cons_self _ _) | exact (HS2d.out _).sub (List.sublist_cons_self _ _)⟩
end Go.Proofs.Ytjphckfbbiehdaa

namespace Go.Proofs.Ytjphckfbbiehdaa
open Go.RowKit Go.Maps
theorem regs_rd {g : Nat} {regs : List Val} {x : Item} (hl : regs.length = 8) (X : World) (h : (allI [blkI g 109 (regC regs), x]).P X) : Rd X (fun _ => True) 2 (some ⟨g, 0, none⟩) 8 (vals regs) := by
  have h1 : Blk X g 109 (regC regs) := h.1 (blkI g 109 (regC regs)) (List.mem_cons_self ..)
  have h2 := rd_blk (size := 2) (n := 8) h1 (by unfold regC; rw [List.size_toArray, vals_length, hl]) (by decide)
  exact h2
set_option maxRecDepth 100000 in
set_option maxHeartbeats 16000000 in
theorem rwork_copy {F : Nat → Prop} {W0 w : World} {Be : Nat} {t : RpT} {x : Item} (h : Sep F W0 w (x :: rpR Be t)) (ok : RpOk t.a) (hps : t.oj.ps.length ≤ 600) (hl : t.log = []) (p0 p1 p2 p3 p4 p5 p6 p7 : Val) (hregs : t.regs = [p0, p1, p2, p3, p4, p5, p6, p7]) (hnum : ∀ v ∈ t.regs, numOk v) {v : Val} (hm : t.a.miss = some v) :
    Calls Try.prog 84 #[.pointer (some ⟨Be, 0, none⟩), .agg #[.bool p0.1, .int .i64 p0.2, .bool p1.1, .int .i64 p1.2, .bool p2.1, .int .i64 p2.2, .bool p3.1, .int .i64 p3.2, .bool p4.1, .int .i64 p4.2, .bool p5.1, .int .i64 p5.2, .bool p6.1, .int .i64 p6.2, .bool p7.1, .int .i64 p7.2]] w fun e w' => (∃ u, e = .returned u) ∧ ∃ t' : RpT, t'.a = t.a.work ∧ Sep F W0 w' (x :: rpR Be t') := by
  obtain ⟨g, hg⟩ : ∃ g, w.heap.size = g := ⟨_, rfl⟩
  have hS0 := h.blkAtF 109 (regC t.regs) hg
  rw [show regC t.regs = #[.bool p0.1, .int .i64 p0.2, .bool p1.1, .int .i64 p1.2, .bool p2.1, .int .i64 p2.2, .bool p3.1, .int .i64 p3.2, .bool p4.1, .int .i64 p4.2, .bool p5.1, .int .i64 p5.2, .bool p6.1, .int .i64 p6.2, .bool p7.1, .int .i64 p7.2] from by rw [hregs]; rfl] at hS0
  obtain ⟨W, hW⟩ : ∃ W, w.alloc (.cells #[.bool p0.1, .int .i64 p0.2, .bool p1.1, .int .i64 p1.2, .bool p2.1, .int .i64 p2.2, .bool p3.1, .int .i64 p3.2, .bool p4.1, .int .i64 p4.2, .bool p5.1, .int .i64 p5.2, .bool p6.1, .int .i64 p6.2, .bool p7.1, .int .i64 p7.2] 109) = W := ⟨_, rfl⟩
  rw [hW] at hS0
  have HW := hide hW
  rw [show (#[.bool p0.1, .int .i64 p0.2, .bool p1.1, .int .i64 p1.2, .bool p2.1, .int .i64 p2.2, .bool p3.1, .int .i64 p3.2, .bool p4.1, .int .i64 p4.2, .bool p5.1, .int .i64 p5.2, .bool p6.1, .int .i64 p6.2, .bool p7.1, .int .i64 p7.2] : Array Value) = regC t.regs from by rw [hregs]; rfl] at hS0
  obtain ⟨-, -, -, -, -, k5, -, k7, k8⟩ := rp_cells (pre := [_, x]) hS0
  obtain ⟨-, x2, x3, -⟩ := hS0.rules 0 (g := g) (t := 109) rfl
  have hr8 : t.regs.length = 8 := by rw [hregs]; rfl
  have HC := hide (rpcontains_any (n := 8) (c := 8) (regs := t.regs) (A := some ⟨g, 0, none⟩) (x := allI [blkI g 109 (regC t.regs), x]) (Sep.join (l := [_, _]) hS0) ok hps (by omega) hr8 (fun X hX => regs_rd hr8 X hX) (fun v hv => ⟨ok.vr v hv, hnum v hv⟩))
  have hml : missL t.a t.regs = some v := hm
  rw [hl] at k5
  have HM := hide hml
  have HWK := hide (show t.a.work = t.a.copM (missL t.a t.regs) from by
    unfold RpA.work
    rw [show t.a.log = [] from hl, hm, hml]
    rfl)
  clear h ok hps hl hregs hnum hm hW hS0 hr8 hml
  go_enter Try.func84, Try.ntmps84
  go_upto_region 1 with fail
  rw [HW.out]
  go_wp2_with fail
  refine HC.out.mono ?_
  rintro e w5 ⟨rfl, t5, hab, hS5⟩
  have HS5 := hide (Sep.split (l := [_, x]) hS5)
  have HA := hide (hab.trans HWK.out.symm)
  clear hS5 hab HC
  rw [HM.out]
  go_wp2_with fail
  (try simp only [Exit.inBlock, Exit.then]); refine bodyPost_ret (results_none rfl _ _ _) rfl ?_
  exact ⟨⟨_, rfl⟩, t5, HA.out, HS5.out.sub (List.sublist_cons_self _ _)⟩
end Go.Proofs.Ytjphckfbbiehdaa
