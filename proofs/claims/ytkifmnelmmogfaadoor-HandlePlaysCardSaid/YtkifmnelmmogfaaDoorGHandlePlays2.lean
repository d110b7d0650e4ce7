/- Handles: the program's slots: a handle is made; what is done; an error's code. Handles: two rows of answers are the same. Handles: a script, plain; the program's Play. -/
import Derived.Test.YtkifmnelmmogfaaDoorGHandlePlays1
import Derived.Laws.StructEq
import Derived.Deep.RegionHeld3
set_option linter.unusedSimpArgs false
set_option linter.unusedVariables false
namespace Go.Proofs.YtkifmnelmmogfaaDoor
open Go.RowKit

def slP (s : Slt) : Bool := !s.used && decide (s.ver ≤ 3)
theorem slFree_at {sl : List Slt} {k : Nat} {s : Slt} (h : ∀ t ∈ sl.take k, slP t = false) (hk : sl[k]? = some s) (hp : slP s = true) : slFree sl = some k := by
  unfold slFree
  induction sl generalizing k with
  | nil => simp at hk
  | cons a sl ih =>
    rw [List.findIdx?_cons]
    cases k with
    | zero =>
      simp only [List.getElem?_cons_zero, Option.some.injEq] at hk
      subst hk
      rw [show (!a.used && decide (a.ver ≤ 3)) = true from hp]
      rfl
    | succ k =>
      rw [show (!a.used && decide (a.ver ≤ 3)) = false from h a (by simp)]
      have := ih (k := k) (fun t ht => h t (by simp [ht])) (by simpa using hk)
      rw [this]
      rfl
theorem slFree_no {sl : List Slt} (h : ∀ t ∈ sl, slP t = false) : slFree sl = none := by
  unfold slFree
  rw [List.findIdx?_eq_none_iff]
  exact fun t ht => h t ht
theorem sltV_set2 (l : List Slt) (j : Nat) (s : Slt) (x : Int) (u : Bool) (hj : l[j]? = some s) : ((sltV l).set (j * 3) (.int .i64 x)).set (j * 3 + 2) (.bool u) = sltV (l.set j ⟨x, s.ver, u⟩) := by
  unfold sltV
  induction l generalizing j with
  | nil => simp at hj
  | cons a l ih =>
    cases j with
    | zero =>
      simp only [List.getElem?_cons_zero, Option.some.injEq] at hj
      subst hj
      rfl
    | succ j =>
      rw [List.flatMap_cons, show (j + 1) * 3 = j * 3 + 1 + 1 + 1 from by omega, show j * 3 + 1 + 1 + 1 + 2 = (j * 3 + 2) + 1 + 1 + 1 from by omega]
      simp only [List.cons_append, List.nil_append, List.set_cons_succ, List.flatMap_cons]
      rw [ih j (by simpa using hj)]
theorem tb_set2 {F : Nat → Prop} {W w : World} {Bt gs n : Nat} {sl : List Slt} (h : Sep F W w [tbI Bt gs n sl]) (i : Nat) (s : Slt) (hi : sl[i]? = some s) (x : Int) (u : Bool) :
    Sep F W ((w.setCell ⟨gs, i * 3, none⟩ (.int .i64 x)).setCell ⟨gs, i * 3 + 2, none⟩ (.bool u)) [tbI Bt gs n (sl.set i ⟨x, s.ver, u⟩)] := by
  have h1 : Sep F W w (tbL Bt gs n sl) := h.flat
  have h2 := (h1.store 1 (g := gs) rfl (i * 3) (.int .i64 x)).store 1 (g := gs) rfl (i * 3 + 2) (.bool u)
  simp only [List.set_cons_succ, List.set_cons_zero, sltV_set2 sl i s x u hi, tbL] at h2
  exact Sep.fold (l := tbL Bt gs n (sl.set i ⟨x, s.ver, u⟩)) h2

set_option maxRecDepth 100000 in
set_option maxHeartbeats 4000000 in
theorem make_any {Bt gs n : Nat} {sl : List Slt} {w : World} (hP : (tbI Bt gs n sl).P w) (hn : n ≤ 32) (hver : ∀ s ∈ sl, 0 ≤ s.ver ∧ s.ver ≤ 1000) (x : Int) :
    Calls Tryd.prog 10 #[.pointer (some ⟨Bt, 0, none⟩), .int .i64 x] w fun e w' => e = .returned (.tuple #[.int .i64 (slStep 1 x sl).1.2, errV (slStep 1 x sl).1.1]) ∧ Sep (tbI Bt gs n sl).fp w w' [tbI Bt gs n (slStep 1 x sl).2] := by
  have hS0 := Sep.start hP
  obtain ⟨F, hF⟩ : ∃ F, (tbI Bt gs n sl).fp = F := ⟨_, rfl⟩
  rw [hF] at hS0 ⊢
  obtain ⟨c0, c1, hl, n1, hs⟩ := tb_cells hP
  have hst : slStep 1 x sl = match slFree sl with | some i => ((0, (sl.getD i ⟨0, 0, false⟩).ver * 32 + i), sl.set i ⟨x, (sl.getD i ⟨0, 0, false⟩).ver, true⟩) | none => ((6, 0), sl) := rfl
  obtain ⟨res, hres⟩ : ∃ r, slStep 1 x sl = r := ⟨_, rfl⟩
  rw [hres] at hst ⊢
  have HST := hide hst
  have HS0 := hide hS0
  have HS := hide hs
  have HL := hide hl
  have HV := hide hver
  have hne : gs ≠ Bt := fun e => n1 e.symm
  clear hst hres hS0 hs hl hP hF hver
  go_enter Tryd.func10, Tryd.ntmps10
  go_wp2_with fail
  go_loop [13] (fun i => ∃ k : Nat, k ≤ n ∧ i = .int .i64 k ∧ Hid (∀ t ∈ sl.take k, slP t = false)) (fun i => n - (intOf i).toNat)
  case atStart => exact ⟨0, by omega, rfl, by simp [Hid]⟩
  case round =>
    obtain ⟨k, hk, rfl, HN⟩ := hrel
    by_cases hlt : k < n
    · have hkl : k < sl.length := by rw [HL.out]; exact hlt
      obtain ⟨s, hi⟩ : ∃ s, sl[k]? = some s := ⟨_, List.getElem?_eq_getElem hkl⟩
      have hT := List.take_succ_eq_append_getElem hkl
      rw [List.getElem?_eq_getElem hkl] at hi
      injection hi with hi
      rw [hi] at hT
      have HT := hide hT
      have HI := hide (show sl[k]? = some s from by rw [List.getElem?_eq_getElem hkl, hi])
      obtain ⟨e0, e1, e2, e3, e4, e5, e6⟩ := HS.out _ s HI.out
      obtain ⟨v0, v1⟩ := HV.out s (List.mem_of_getElem? HI.out)
      obtain ⟨val, ver, used⟩ := s
      dsimp only at e0 e1 e2 v0 v1
      clear hT hi hkl
      cases used with
      | true =>
        go_wp2_with fail
        go_round
        case rel => exact ⟨k + 1, by omega, by go_num, by
          show ∀ t ∈ sl.take (k + 1), slP t = false
          rw [HT.out]
          intro t ht
          rcases List.mem_append.1 ht with h | h
          · exact HN.out t h
          · rw [List.mem_singleton.1 h]; rfl⟩
        case measure => simp [intOf]; omega
      | false =>
        by_cases hv3 : ver ≤ 3
        · have t1 : decide (ver ≤ 3) = true := by simp [hv3]
          have hfr : slFree sl = some k := slFree_at HN.out HI.out (by simp [slP, hv3])
          have hw1 : IntKind.i64.wrap (ver * 32) = ver * 32 := by simp only [IntKind.wrap_i64]; omega
          have hw2 : IntKind.i64.wrap (ver * 32 + (k : Int)) = ver * 32 + (k : Int) := by simp only [IntKind.wrap_i64]; omega
          have hg : sl.getD k ⟨0, 0, false⟩ = ⟨val, ver, false⟩ := by rw [List.getD_eq_getElem?_getD, HI.out]; rfl
          have hr := HST.out
          rw [hfr] at hr
          dsimp only at hr
          rw [hg] at hr
          have HR := hide hr
          have HX := hide (tb_set2 HS0.out k _ HI.out x true)
          dsimp only at HX
          clear hr hg hfr hv3 v0 v1
          go_wp2_with fail
          have hr := HR.out
          subst hr
          refine bodyPost_ret (v := .tuple #[.int .i64 (ver * 32 + k), .nilIface]) (by simp [results, Tryd.results10, go_sem]) rfl ⟨rfl, HX.out⟩
        · have t1 : decide (ver ≤ 3) = false := by simp only [hv3, decide_false]
          have HP3 := hide (show slP ⟨val, ver, false⟩ = false by simp [slP]; omega)
          clear hv3
          go_wp2_with fail
          go_round
          case rel => exact ⟨k + 1, by omega, by go_num, by
            show ∀ t ∈ sl.take (k + 1), slP t = false
            rw [HT.out]
            intro t ht
            rcases List.mem_append.1 ht with h | h
            · exact HN.out t h
            · rw [List.mem_singleton.1 h]; exact HP3.out⟩
          case measure => simp [intOf]; omega
    · obtain rfl : k = n := by omega
      have h := HN.out
      rw [List.take_of_length_le (by rw [HL.out]; omega)] at h
      have hr := HST.out
      rw [slFree_no h] at hr
      dsimp only at hr
      have HR := hide hr
      clear h hr
      go_wp2_with fail
      have hr := HR.out
      subst hr
      refine bodyPost_ret (v := .tuple #[.int .i64 0, .iface 53 (.int .i64 6)]) (by simp [results, Tryd.results10, go_sem]) rfl ⟨rfl, HS0.out⟩

set_option maxRecDepth 100000 in
set_option maxHeartbeats 4000000 in
theorem does_any {Bt gs n : Nat} {sl : List Slt} {w : World} (hP : (tbI Bt gs n sl).P w) (hn : n ≤ 32) (hver : ∀ s ∈ sl, 0 ≤ s.ver ∧ s.ver ≤ 1000) (k x : Int) (hb0 : -9223372036854775808 ≤ x) (hb1 : x ≤ 9223372036854775807) :
    Calls Tryd.prog 7 #[.pointer (some ⟨Bt, 0, none⟩), .agg #[.int .i64 k, .int .i64 x]] w fun e w' => e = .returned (.tuple #[.int .i64 (slStep k x sl).1.2, errV (slStep k x sl).1.1]) ∧ Sep (tbI Bt gs n sl).fp w w' [tbI Bt gs n (slStep k x sl).2] := by
  obtain ⟨g, hg⟩ : ∃ g, w.heap.size = g := ⟨_, rfl⟩
  obtain ⟨F, hF⟩ : ∃ F, (tbI Bt gs n sl).fp = F := ⟨_, rfl⟩
  have hS0 := (Sep.start hP).blkAt 35 #[.int .i64 k, .int .i64 x] hg
  have hbd : Below w.heap.size w (w.alloc (.cells #[.int .i64 k, .int .i64 x] 35)) := (Below.refl _ w).alloc (Nat.le_refl _) _
  rw [hF] at hS0 ⊢
  have HS0 := hide hS0
  by_cases h1 : k = 1
  · subst h1
    have C := hide (make_any (hS0.get 0 rfl) hn hver x)
    clear hS0 hP hbd
    go_enter Tryd.func7, Tryd.ntmps7
    go_wp2_with fail
    refine C.out.mono ?_
    rintro e w1 ⟨rfl, hP1⟩
    have HS1 := hide (HS0.out.call 0 rfl hP1)
    clear hP1 HS0 C
    go_wp2_with fail
    refine bodyPost_ret (v := .tuple #[.int .i64 (slStep 1 x sl).1.2, errV (slStep 1 x sl).1.1]) (by simp [results, Tryd.results7, go_sem]) rfl ⟨rfl, HS1.out.sub (List.sublist_append_left [_] [_])⟩
  · by_cases h2 : k = 2
    · subst h2
      have C := hide (drop_any (hS0.get 0 rfl) hn hver x hb0 hb1)
      have h0 : (slStep 2 x sl).1.2 = 0 := by
        unfold slStep
        rw [if_neg (by decide), if_pos rfl]
        cases slFind sl x <;> rfl
      rw [h0]
      clear hS0 hP hbd h0
      go_enter Tryd.func7, Tryd.ntmps7
      go_wp2_with fail
      refine C.out.mono ?_
      rintro e w1 ⟨rfl, hP1⟩
      have HS1 := hide (HS0.out.call 0 rfl hP1)
      clear hP1 HS0 C
      go_wp2_with fail
      refine bodyPost_ret (v := .tuple #[.int .i64 0, errV (slStep 2 x sl).1.1]) (by simp [results, Tryd.results7, go_sem]) rfl ⟨rfl, HS1.out.sub (List.sublist_append_left [_] [_])⟩
    · by_cases h3 : k = 3
      · subst h3
        have C := hide (find_any (hS0.get 0 rfl) hn x hb0 hb1)
        have hst : slStep 3 x sl = match slFind sl x with | some i => ((0, (sl.getD i ⟨0, 0, false⟩).val), sl) | none => ((2, 0), sl) := rfl
        rw [hst]
        clear hst
        obtain ⟨_, _, hl, _, hs⟩ := tb_cells (hS0.get 0 rfl)
        cases hf : slFind sl x with
        | none =>
          rw [hf] at C
          unfold fndV refu at C
          dsimp only at C ⊢
          clear hS0 hP hbd hs hl hf
          go_enter Tryd.func7, Tryd.ntmps7
          go_wp2_with fail
          refine C.out.mono ?_
          rintro e w1 ⟨rfl, rfl⟩
          go_wp2_with fail
          refine bodyPost_ret (v := .tuple #[.int .i64 0, .iface 53 (.int .i64 2)]) (by simp [results, Tryd.results7, go_sem]) rfl ⟨rfl, HS0.out.sub (List.sublist_append_left [_] [_])⟩
        | some i =>
          rw [hf] at C
          unfold fndV at C
          dsimp only at C ⊢
          have hil : i < sl.length := by
            unfold slFind at hf
            split at hf
            · cases hf
            · split at hf
              · rename_i s hs'
                split at hf
                · injection hf with hf; rw [← hf]; exact (List.getElem?_eq_some_iff.1 hs').1
                · cases hf
              · cases hf
          obtain ⟨s, hi⟩ : ∃ s, sl[i]? = some s := ⟨_, List.getElem?_eq_getElem hil⟩
          obtain ⟨e0, e1, e2, e3, e4, e5, e6⟩ := hs _ s hi
          have hgd : sl.getD i ⟨0, 0, false⟩ = s := by rw [List.getD_eq_getElem?_getD, hi]; rfl
          rw [hgd]
          obtain ⟨val, ver, used⟩ := s
          dsimp only at e0 ⊢
          clear hS0 hP hbd hs hl hf hi hil hgd
          go_enter Tryd.func7, Tryd.ntmps7
          go_wp2_with fail
          refine C.out.mono ?_
          rintro e w1 ⟨rfl, rfl⟩
          go_wp2_with fail
          refine bodyPost_ret (v := .tuple #[.int .i64 val, .nilIface]) (by simp [results, Tryd.results7, go_sem]) rfl ⟨rfl, HS0.out.sub (List.sublist_append_left [_] [_])⟩
      · have y1 : (k == 1) = false := by simp [h1]
        have y2 : (k == 2) = false := by simp [h2]
        have y3 : (k == 3) = false := by simp [h3]
        have hst : slStep k x sl = ((5, 0), sl) := by unfold slStep; rw [if_neg h1, if_neg h2, if_neg h3]
        rw [hst]
        clear hS0 hP hbd hst h1 h2 h3
        go_enter Tryd.func7, Tryd.ntmps7
        go_wp2_with fail
        refine bodyPost_ret (v := .tuple #[.int .i64 0, .iface 53 (.int .i64 5)]) (by simp [results, Tryd.results7, go_sem]) rfl ⟨rfl, HS0.out.sub (List.sublist_append_left [_] [_])⟩

def eTy (w : World) : Prop := w.cell? ⟨0, 0, none⟩ = some (.iface 70 (.agg #[.pointer (some ⟨1, 37, none⟩)]))
theorem eTy_lt {w : World} (h : eTy w) : 0 < w.heap.size := by
  rcases Nat.eq_zero_or_pos w.heap.size with h0 | h1
  · simp [eTy, World.cell?, h0] at h
  · exact h1
theorem eTy_below {w w' : World} (h : eTy w) (hb : Below w.heap.size w w') : eTy w' := (World.cell?_of_block (a := ⟨0, 0, none⟩) (hb.block 0 (eTy_lt h))).trans h

set_option maxRecDepth 100000 in
set_option maxHeartbeats 4000000 in
theorem code_any (w : World) (hg : eTy w) (c : Int) : Calls Tryd.prog 8 #[errV c] w fun e w' => e = .returned (.int .i64 c) ∧ Below w.heap.size w w' := by
  by_cases h0 : c = 0
  · subst h0
    rw [show errV 0 = .nilIface from rfl]
    have HB := hide ((Below.refl w.heap.size w).alloc (Nat.le_refl _) (.cells #[.int .i64 0] 53))
    clear hg
    go_enter Tryd.func8, Tryd.ntmps8
    go_wp2_with fail
    refine (as_nil _ _).mono ?_
    rintro e w1 ⟨rfl, rfl⟩
    go_wp2_with fail
    go_ret
    exact ⟨rfl, HB.out⟩
  · rw [show errV c = refu c from if_neg h0]
    unfold refu
    have hlt := eTy_lt hg
    have hgA : (w.alloc (.cells #[.int .i64 0] 53)).cell? ⟨0, 0, none⟩ = some (.iface 70 (.agg #[.pointer (some ⟨1, 37, none⟩)])) := by
      rw [World.cell?_alloc_lt _ _ ⟨0, 0, none⟩ hlt]; exact hg
    have C := hide (as_hit c ⟨w.heap.size, 0, none⟩ (.int .i64 0) (w.alloc (.cells #[.int .i64 0] 53)) hgA (by simp) (by simp))
    clear hgA hg h0 hlt
    go_enter Tryd.func8, Tryd.ntmps8
    go_wp2_with fail
    refine C.out.mono ?_
    rintro e w1 ⟨rfl, rfl⟩
    clear C
    go_wp2_with fail
    go_ret
    refine ⟨by simp, ?_⟩
    exact (by repeat (first | with_reducible exact Below.refl _ _ | with_reducible (refine Below.setCell ?_ (by first | omega | (simp; done) | (simp; omega)) _) | with_reducible (refine Below.alloc ?_ (by first | omega | (simp; done) | (simp; omega)) _) | with_reducible refine Below.drew ?_ | with_reducible refine below_drewN ?_ _))
end Go.Proofs.YtkifmnelmmogfaaDoor

namespace Go.Proofs.YtkifmnelmmogfaaDoor
open Go.RowKit

def outsV (l : List OutV) : List Value := l.flatMap fun o => [.int .i64 o.code, .bool o.rf, .int .i64 o.n]
theorem outsV_length (l : List OutV) : (outsV l).length = l.length * 3 := by
  unfold outsV; induction l with
  | nil => rfl
  | cons a l ih => simp [List.flatMap_cons] at ih ⊢; omega
theorem outsV_at (l : List OutV) (k : Nat) (h : k < l.length) : (outsV l)[k * 3]? = some (.int .i64 l[k].code) ∧ (outsV l)[k * 3 + 1]? = some (.bool l[k].rf) ∧ (outsV l)[k * 3 + 2]? = some (.int .i64 l[k].n) := by
  unfold outsV
  induction l generalizing k with
  | nil => simp at h
  | cons a l ih =>
    cases k with
    | zero => exact ⟨rfl, rfl, rfl⟩
    | succ k =>
      have h2 := ih k (by simpa using h)
      rw [List.flatMap_cons, show (k + 1) * 3 = k * 3 + 1 + 1 + 1 from by omega]
      exact h2
theorem neq_out (w : World) (c : Int) (b : Bool) (n : Int) : (binOp .neq 42 (.agg #[.int .i64 c, .bool b, .int .i64 n]) (.agg #[.int .i64 c, .bool b, .int .i64 n])).run Tryd.prog w = .ok (.bool false) w := by
  have h1 : Tryd.prog.underlying 42 = some (.struct (Tryd.prog.fieldsOf 42)) := by kernel_rfl
  have h2 : Tryd.prog.stoodInHeld 42 = false := by kernel_rfl
  obtain ⟨F, hF⟩ : ∃ F, (Tryd.prog.fieldsOf 42).toList = F := ⟨_, rfl⟩
  have h5 : F = [F[0]!, F[1]!, F[2]!] := by rw [← hF]; kernel_rfl
  have n1 : (F[0]!).name ≠ "_" := by rw [← hF]; rw [show ((Tryd.prog.fieldsOf 42).toList[0]!).name = "Code" from by kernel_rfl]; decide
  have n2 : (F[1]!).name ≠ "_" := by rw [← hF]; rw [show ((Tryd.prog.fieldsOf 42).toList[1]!).name = "Ref" from by kernel_rfl]; decide
  have n3 : (F[2]!).name ≠ "_" := by rw [← hF]; rw [show ((Tryd.prog.fieldsOf 42).toList[2]!).name = "N" from by kernel_rfl]; decide
  obtain ⟨t0, ht0⟩ : ∃ t, (F[0]!).type = t := ⟨_, rfl⟩
  obtain ⟨t1, ht1⟩ : ∃ t, (F[1]!).type = t := ⟨_, rfl⟩
  obtain ⟨t2, ht2⟩ : ∃ t, (F[2]!).type = t := ⟨_, rfl⟩
  have u0 : ∃ k, Tryd.prog.underlying t0 = some (.int k) := by rw [← ht0, ← hF]; exact ⟨.i64, by kernel_rfl⟩
  have u1 : Tryd.prog.underlying t1 = some .bool := by rw [← ht1, ← hF]; kernel_rfl
  have u2 : ∃ k, Tryd.prog.underlying t2 = some (.int k) := by rw [← ht2, ← hF]; exact ⟨.i64, by kernel_rfl⟩
  have o0 : ∀ x y z, (part t0 #[x, y, z] (F[0]!).offset).run Tryd.prog w = .ok x w := fun x y z => by rw [← ht0, ← hF]; kernel_rfl
  have o1 : ∀ x y z, (part t1 #[x, y, z] (F[1]!).offset).run Tryd.prog w = .ok y w := fun x y z => by rw [← ht1, ← hF]; kernel_rfl
  have o2 : ∀ x y z, (part t2 #[x, y, z] (F[2]!).offset).run Tryd.prog w = .ok z w := fun x y z => by rw [← ht2, ← hF]; kernel_rfl
  rw [run_neq_struct, run_equalIn_agg _ _ _ _ _ h1 h2, hF, h5]
  obtain ⟨k0, u0⟩ := u0
  obtain ⟨k2, u2⟩ := u2
  simp only [Op.eqFields, ht0, ht1, ht2, n1, n2, n3, ne_eq, not_false_iff, if_true, Sem.run_ite, Sem.run_bind, o0, o1, o2, Result.andThen_ok, run_equalIn_bool' w _ _ _ _ u1, run_equalIn_int w _ _ _ _ _ _ u0, run_equalIn_int w _ _ _ _ _ _ u2]
  simp
theorem guard_out (w : World) (x y : Operand) (a b : Array Value) : (eqGuard .neq 42 x y (.agg a) (.agg b)).run Tryd.prog w = .ok () w :=
  run_eqGuard_agg w .neq _ x y _ _ (by kernel_rfl)

set_option maxRecDepth 100000 in
set_option maxHeartbeats 8000000 in
theorem outs_any (w : World) (A1 A2 : Option Addr) (n c1 c2 : Nat) (os : List OutV) (hn : n ≤ 1000) (h1 : Rd w (fun _ => True) 3 A1 n (outsV os)) (h2 : Rd w (fun _ => True) 3 A2 n (outsV os)) :
    Calls Tryd.prog 5 #[.slice A1 n c1, .slice A2 n c2] w fun e w' => e = .returned (.bool true) ∧ Below w.heap.size w w' := by
  have HL := hide (show os.length = n by have := h1.1; rw [outsV_length] at this; omega)
  have hng := neq_out
  have hgd := guard_out
  go_enter Tryd.func5, Tryd.ntmps5
  go_wp2_with fail
  go_loopw [5] (fun s wr => ∃ (k : Nat), k ≤ n ∧ s = .int .i64 k ∧ Below w.heap.size w wr) (fun s _ => n - (intOf s).toNat)
  case atStart => exact ⟨0, by omega, rfl, Below.refl _ _⟩
  case round =>
    obtain ⟨k, hk, rfl, hb⟩ := hrel
    by_cases hlt : k < n
    · have hkl : k < os.length := by rw [HL.out]; exact hlt
      obtain ⟨v0, v1, v2⟩ := outsV_at os k hkl
      obtain ⟨ad, hA, _, had, hc, hd⟩ := (h1.below hb).atN hlt
      obtain ⟨ad2, hA2, _, had2, hc2, hd2⟩ := (h2.below hb).atN hlt
      have e0 := hc _ v0
      have e1 := hd 0 _ v1
      have e2 := hd 1 _ v2
      have f0 := hc2 _ v0
      have f1 := hd2 0 _ v1
      have f2 := hd2 1 _ v2
      obtain ⟨o, ho⟩ : ∃ o, os[k] = o := ⟨_, rfl⟩
      rw [ho] at e0 e1 e2 f0 f1 f2
      obtain ⟨c, r, m⟩ := o
      dsimp only at e0 e1 e2 f0 f1 f2
      subst hA hA2
      have HB := hide hb
      clear hc hd hc2 hd2 v0 v1 v2 hb ho
      go_wp2_with fail
      go_region_held3 (fun w' => w'.cell? (ad.add (k * 3)) = some (.int .i64 c) ∧ w'.cell? ⟨(ad.add (k * 3)).block, (ad.add (k * 3)).off + 1, none⟩ = some (.bool r) ∧ w'.cell? ⟨(ad.add (k * 3)).block, (ad.add (k * 3)).off + 2, none⟩ = some (.int .i64 m) ∧ w'.cell? (ad2.add (k * 3)) = some (.int .i64 c) ∧ w'.cell? ⟨(ad2.add (k * 3)).block, (ad2.add (k * 3)).off + 1, none⟩ = some (.bool r) ∧ w'.cell? ⟨(ad2.add (k * 3)).block, (ad2.add (k * 3)).off + 2, none⟩ = some (.int .i64 m)) (go_keep) (fail)
      all_goals go_wp2_with fail
      all_goals exact ⟨⟨k + 1, by omega, by go_num, HB.out.drew⟩, by simp [intOf]; omega⟩
    · obtain rfl : k = n := by omega
      go_wp2_with fail
      go_ret
      exact ⟨rfl, hb⟩
end Go.Proofs.YtkifmnelmmogfaaDoor

namespace Go.Proofs.YtkifmnelmmogfaaDoor
open Go.RowKit

theorem smade (n : Nat) : (madeCells (Value.cells (.agg #[.int .i64 0, .int .i64 0, .bool false])) (n * 3)).toList = sltV (List.replicate n ⟨0, 0, false⟩) := by
  apply List.ext_getElem
  · simp [madeCells, sltV_length]
  · intro j h1 h2
    have hj : j < n * 3 := by simpa [madeCells] using h1
    obtain ⟨v0, v1, v2⟩ := sltV_at (List.replicate n ⟨0, 0, false⟩) (j / 3) (by simp; omega)
    have hr : j % 3 = 0 ∨ j % 3 = 1 ∨ j % 3 = 2 := by omega
    rcases hr with h | h | h
    · rw [show j / 3 * 3 = j from by omega, List.getElem?_eq_getElem h2] at v0
      injection v0 with v0
      rw [v0]
      simp [madeCells, Value.cells, h]
    · rw [show j / 3 * 3 + (0 + 1) = j from by omega, List.getElem?_eq_getElem h2] at v1
      injection v1 with v1
      rw [v1]
      simp [madeCells, Value.cells, h]
    · rw [show j / 3 * 3 + (1 + 1) = j from by omega, List.getElem?_eq_getElem h2] at v2
      injection v2 with v2
      rw [v2]
      simp [madeCells, Value.cells, h]
theorem sltInfo : (Tryd.prog.info? 52).map (fun i => (i.zero, i.size, i.bytes)) = some (some (.agg #[.int .i64 0, .int .i64 0, .bool false]), 3, 24) := by kernel_rfl
def slRs (p : List OutV × List Slt) (d : Int × Int) : List OutV × List Slt := (p.1 ++ [⟨(slStep d.1 d.2 p.2).1.1, false, (slStep d.1 d.2 p.2).1.2⟩], (slStep d.1 d.2 p.2).2)
def slRun (n : Nat) (ds : List (Int × Int)) : List OutV × List Slt := ds.foldl slRs ([], List.replicate n ⟨0, 0, false⟩)
def hdRs (n : Nat) (p : List OutV × List Hnd) (d : Int × Int) : List OutV × List Hnd := (p.1 ++ [⟨(hdStep n d.1 d.2 p.2).1.1, false, (hdStep n d.1 d.2 p.2).1.2⟩], (hdStep n d.1 d.2 p.2).2)
def hdRun (n : Nat) (ds : List (Int × Int)) : List OutV × List Hnd := ds.foldl (hdRs n) ([], [])
theorem slRun_snoc (n : Nat) (ds : List (Int × Int)) (d : Int × Int) : slRun n (ds ++ [d]) = slRs (slRun n ds) d := by unfold slRun; rw [List.foldl_append]; rfl
theorem hdRun_snoc (n : Nat) (ds : List (Int × Int)) (d : Int × Int) : hdRun n (ds ++ [d]) = hdRs n (hdRun n ds) d := by unfold hdRun; rw [List.foldl_append]; rfl
theorem hdStep_len (n : Nat) (k x : Int) (hs : List Hnd) : (hdStep n k x hs).2.length ≤ hs.length + 1 := by
  unfold hdStep
  split
  · split <;> simp
  · split
    · split <;> simp
    · split
      · split <;> simp
      · simp
theorem run_inv {n : Nat} (h32 : n ≤ 32) (ds : List (Int × Int)) : (slRun n ds).1 = (hdRun n ds).1 ∧ HInv n (slRun n ds).2 (hdRun n ds).2 ∧ (hdRun n ds).2.length ≤ ds.length ∧ (slRun n ds).1.length = ds.length := by
  have key : ∀ (m : Nat), m ≤ ds.length → (slRun n (ds.take m)).1 = (hdRun n (ds.take m)).1 ∧ HInv n (slRun n (ds.take m)).2 (hdRun n (ds.take m)).2 ∧ (hdRun n (ds.take m)).2.length ≤ m ∧ (slRun n (ds.take m)).1.length = m := by
    intro m
    induction m with
    | zero => intro _; exact ⟨rfl, HInv.zero n h32, by simp [hdRun], by simp [slRun]⟩
    | succ m ih =>
      intro hm
      obtain ⟨i1, i2, i3, i4⟩ := ih (by omega)
      rw [List.take_succ_eq_append_getElem (by omega), slRun_snoc, hdRun_snoc]
      obtain ⟨s1, s2⟩ := i2.step ds[m].1 ds[m].2
      refine ⟨?_, s2, ?_, ?_⟩
      · show _ ++ [_] = _ ++ [_]
        rw [i1, s1]
      · have := hdStep_len n ds[m].1 ds[m].2 (hdRun n (ds.take m)).2
        show (hdStep _ _ _ _).2.length ≤ _
        omega
      · show (_ ++ [_]).length = _
        rw [List.length_append, i4]; rfl
  have := key ds.length (Nat.le_refl _)
  rwa [List.take_length] at this
theorem run_ver {n : Nat} (h32 : n ≤ 32) (ds : List (Int × Int)) (hd : ds.length ≤ 100) : ∀ s ∈ (slRun n ds).2, 0 ≤ s.ver ∧ s.ver ≤ 1000 := by
  obtain ⟨_, h, hl, _⟩ := run_inv h32 ds
  intro s hs
  obtain ⟨i, hi⟩ := List.mem_iff_getElem?.1 hs
  have h0 := h.ver hi
  have h1 := h.cnt i s hi
  have h2 : hdCnt (hdRun n ds).2 i ≤ (hdRun n ds).2.length := List.countP_le_length
  refine ⟨h0, ?_⟩
  split at h1 <;> omega
def gripV (l : List (Int × Int)) : List Value := l.flatMap fun p => [.int .i64 p.1, .int .i64 p.2]
theorem gripV_length (l : List (Int × Int)) : (gripV l).length = l.length * 2 := by
  unfold gripV; induction l with
  | nil => rfl
  | cons a l ih => simp [List.flatMap_cons] at ih ⊢; omega
theorem gripV_at (l : List (Int × Int)) (k : Nat) (h : k < l.length) : (gripV l)[k * 2]? = some (.int .i64 l[k].1) ∧ (gripV l)[k * 2 + (0 + 1)]? = some (.int .i64 l[k].2) := by
  unfold gripV
  induction l generalizing k with
  | nil => simp at h
  | cons a l ih =>
    cases k with
    | zero => exact ⟨rfl, rfl⟩
    | succ k =>
      have h2 := ih k (by simpa using h)
      rw [List.flatMap_cons, show (k + 1) * 2 = k * 2 + 1 + 1 from by omega]
      exact h2
theorem outsV_app (a b : List OutV) : outsV (a ++ b) = outsV a ++ outsV b := by simp [outsV]
def hErr (size : Int) (nd : Nat) : Int := if size < 1 ∨ 32 < size then 3 else if 100 < nd then 1 else 0

set_option maxRecDepth 100000 in
set_option maxHeartbeats 4000000 in
theorem hplay_no (w : World) (size : Int) (Ad : Option Addr) (nd cd : Nat) (hz : hErr size nd ≠ 0) :
    Calls Tryd.prog 4 #[.int .i64 size, .slice Ad nd cd] w fun e w' => e = .returned (.tuple #[.slice none 0 0, .int .i64 (hErr size nd)]) ∧ w' = w := by
  unfold hErr at hz ⊢
  by_cases h1 : size < 1
  · rw [if_pos (.inl h1)]
    have t1 : decide (size < 1) = true := by simp [h1]
    clear hz
    go_enter Tryd.func4, Tryd.ntmps4
    go_wp2_with fail
    refine bodyPost_ret (v := .tuple #[.slice none 0 0, .int .i64 3]) (by simp [results, Tryd.results4, go_sem]) rfl ⟨rfl, rfl⟩
  · have t1 : decide (size < 1) = false := by simp only [h1, decide_false]
    by_cases h2 : 32 < size
    · rw [if_pos (.inr h2)]
      have t2 : decide (32 < size) = true := by simp [h2]
      clear hz
      go_enter Tryd.func4, Tryd.ntmps4
      go_wp2_with fail
      refine bodyPost_ret (v := .tuple #[.slice none 0 0, .int .i64 3]) (by simp [results, Tryd.results4, go_sem]) rfl ⟨rfl, rfl⟩
    · have t2 : decide (32 < size) = false := by simp only [h2, decide_false]
      rw [if_neg (by omega)] at hz ⊢
      by_cases h3 : 100 < nd
      · rw [if_pos h3]
        have t3 : decide ((100 : Int) < (nd : Int)) = true := by simp; omega
        have t4 : decide (100 < nd) = true := by simp; omega
        clear hz h1 h2 h3
        go_enter Tryd.func4, Tryd.ntmps4
        go_wp2_with fail
        refine bodyPost_ret (v := .tuple #[.slice none 0 0, .int .i64 1]) (by simp [results, Tryd.results4, go_sem]) rfl ⟨rfl, rfl⟩
      · rw [if_neg h3] at hz
        exact absurd rfl hz

set_option maxRecDepth 100000 in
set_option maxHeartbeats 16000000 in
theorem hplay_ok (w : World) (hg : eTy w) (n : Nat) (Ad : Option Addr) (nd cd : Nat) (ds : List (Int × Int)) (h1 : 1 ≤ n) (h32 : n ≤ 32) (hnd : nd ≤ 100) (hD : Rd w (fun _ => True) 2 Ad nd (gripV ds)) (hbd : ∀ d ∈ ds, -9223372036854775808 ≤ d.2 ∧ d.2 ≤ 9223372036854775807) :
    Calls Tryd.prog 4 #[.int .i64 n, .slice Ad nd cd] w fun e w' => ∃ A c, e = .returned (.tuple #[.slice A nd c, .int .i64 0]) ∧ Below w.heap.size w w' ∧ Rd w' (fun g => w.heap.size ≤ g) 3 A nd (outsV (slRun n ds).1) := by
  have HDL := hide (show ds.length = nd by have := hD.1; rw [gripV_length] at this; omega)
  have HBD := hide hbd
  have t1 : decide ((n : Int) < 1) = false := by simp; omega
  have t2 : decide ((32 : Int) < (n : Int)) = false := by simp; omega
  have t3 : decide ((100 : Int) < (nd : Int)) = false := by simp; omega
  have t4 : decide (100 < nd) = false := by simp; omega
  have t5 : decide (n < 1) = false := by simp; omega
  have t6 : decide (32 < n) = false := by simp; omega
  have HG := hide hg
  obtain ⟨gs, hgs⟩ : ∃ x, w.heap.size = x := ⟨_, rfl⟩
  clear hbd hg
  go_enter Tryd.func4, Tryd.ntmps4
  go_wp2_with (first
    | (refine wpList_make rfl (.tmp 21) (.tmp 21) 31 rfl (Sep.nil No w) Tryd.underlying31 sltInfo (by omega) .i64 .i64 n rfl rfl (by omega) ?_
       intro w1 hS1 hb1
       rw [smade] at hS1
       rw [hgs] at hS1
       rw [hgs]))
  obtain ⟨Bt, hBt⟩ : ∃ x, w1.heap.size = x := ⟨_, rfl⟩
  have hS2 := ((hS1.blkAt 33 #[.slice (some ⟨gs, 0, none⟩) n n] hBt).perm (l := tbL Bt gs n (List.replicate n ⟨0, 0, false⟩)) List.perm_append_comm).fold.nilRow 42 3
  have HS2 := hide hS2
  clear hS1 hS2 hb1
  go_loopw [7, 27] (fun s i wr => ∃ (k : Nat) (A : Option Addr) (c : Nat), k ≤ nd ∧ i = .int .i64 k ∧ s = .slice A k c ∧
    Sep No w wr [tbI Bt gs n (slRun n (ds.take k)).2, rowI 42 3 A k c (outsV (slRun n (ds.take k)).1)]) (fun _ i _ => nd - (intOf i).toNat)
  case atStart => exact ⟨0, none, 0, by omega, rfl, rfl, HS2.out⟩
  case round =>
    clear HS2
    obtain ⟨k, A, c, hk, rfl, rfl, hS⟩ := hrel
    have htl : (ds.take k).length = k := by rw [List.length_take, HDL.out]; omega
    have hver := run_ver h32 (ds.take k) (by omega)
    by_cases hlt : k < nd
    · have hkl : k < ds.length := by rw [HDL.out]; exact hlt
      obtain ⟨v0, v1⟩ := gripV_at ds k hkl
      obtain ⟨ad, hA, _, had, hc, hd⟩ := (hD.below hS.below_).atN hlt
      have e0 := hc _ v0
      have e1 := hd 0 _ v1
      obtain ⟨q0, q1⟩ := HBD.out _ (List.getElem_mem hkl)
      have hrs := slRun_snoc n (ds.take k) ds[k]
      rw [← List.take_succ_eq_append_getElem hkl] at hrs
      unfold slRs at hrs
      obtain ⟨d, hd'⟩ : ∃ d, ds[k] = d := ⟨_, rfl⟩
      rw [hd'] at e0 e1 hrs q0 q1
      obtain ⟨kk, x⟩ := d
      dsimp only at e0 e1 hrs q0 q1
      obtain ⟨b9, hb9⟩ : ∃ x, wr.heap.size = x := ⟨_, rfl⟩
      have hS2 := hS.blkAt 35 #[.int .i64 kk, .int .i64 x] hb9
      have CD := does_any (hS2.get 0 rfl) h32 hver kk x q0 q1
      obtain ⟨p, hp⟩ : ∃ p, slStep kk x (slRun n (ds.take k)).2 = p := ⟨_, rfl⟩
      rw [hp] at hrs CD
      obtain ⟨⟨oc, on⟩, sl'⟩ := p
      dsimp only at CD hrs
      have HRS := hide hrs
      have HCD := hide CD
      have HS2 := hide hS2
      subst hA
      clear hc hd v0 v1 hrs hd' hS2 hS CD hp hver htl q0 q1
      go_wp2_with fail
      refine HCD.out.mono ?_
      rintro e w4 ⟨rfl, hP4⟩
      have hS4 := HS2.out.call 0 rfl hP4
      have CC := hide (code_any w4 (eTy_below HG.out hS4.below_) oc)
      have HS4 := hide hS4
      clear hP4 HS2 HCD hS4
      go_wp2_with fail
      refine CC.out.mono ?_
      rintro e w5 ⟨rfl, hb5⟩
      have hS5 := HS4.out.below hb5
      clear hb5 HS4 CC
      go_wp2_with (first
        | (at_builtin
           refine wpList_app1 (cs := #[.int .i64 oc, .bool false, .int .i64 on]) rfl (.tmp 37) (.tmp 42) 23 rfl (F := No) (W := w) sOut (items := _ :: _ :: _) hS5 1 (n := k) rfl rfl rfl (by simp) rfl rfl (by omega) ?_
           intro A6 c6 w6 hS6 hC6))
      go_roundw
      case rel => exact ⟨_, _, _, _, _, ⟨k + 1, by omega, rfl, A6, c6, rfl, by
        rw [HRS.out]
        dsimp only
        rw [outsV_app]
        exact hS6.sub (List.sublist_append_left [_, _] _)⟩, rfl, rfl, rfl, rfl, by go_num⟩
      case measure => simp [intOf]; omega
    · obtain rfl : k = nd := by omega
      rw [List.take_of_length_le (by rw [HDL.out]; omega)] at hS
      have HS := hide hS
      clear hS hver htl
      go_wp2_with fail
      refine bodyPost_ret (v := .tuple #[.slice A k c, .int .i64 0]) (by simp [results, Tryd.results4, go_sem]) rfl ⟨A, c, rfl, HS.out.below_, HS.out.rd 1 rfl⟩
end Go.Proofs.YtkifmnelmmogfaaDoor
