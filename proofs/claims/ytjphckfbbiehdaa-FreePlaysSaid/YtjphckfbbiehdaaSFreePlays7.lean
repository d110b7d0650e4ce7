/- slices.Insert of one block into a row: the call. The choosers of a policy. The chooser of a policy. -/
import Derived.Test.YtjphckfbbiehdaaSFreePlays6
import Derived.Lib.QuietBelow
set_option linter.unusedSimpArgs false
set_option linter.unusedVariables false
namespace Go.Proofs.Ytjphckfbbiehdaa
open Go.RowKit
theorem wpList_apz {P : Program} {w w' : World} {ops : Array Oper} {rest : List Oper} {o : Oper} {a : Act} {Q : Exit → Act → World → Prop} (hgd : o.guard = none) (s x : Operand) (t t2 : TypeId)
    (ho : o.op = .call { callee := .builtin .append, args := #[s, x], argTypes := #[t, t2] }) {u v r : Value} (hs : a.eval s = u) (hx : a.eval x = v)
    (hrun : ∀ ty, (Builtin.append_ #[t, t2] ty #[u, v]).run P w = .ok r w') (h : wpList P ops Q rest (a.put o.dst r) w') : wpList P ops Q (o :: rest) a w :=
  wpList_plain hgd fun K hK => by
    unfold Oper.wp execOp
    simp only [ho, resolve, invoke, builtin, Sem.run_bind, Sem.run_pure, Result.andThen_ok, List.map_toArray, List.map_cons, List.map_nil, hs, hx, hrun]
    exact hK _ _ h
theorem wpList_apr1 {P : Program} {w w' : World} {ops : Array Oper} {rest : List Oper} {o : Oper} {a : Act} {Q : Exit → Act → World → Prop} (hgd : o.guard = none) (s x : Operand) (t : TypeId)
    (ho : o.op = .call { callee := .builtin .append, args := #[s, x], argTypes := #[t, t] }) {u v r : Value} (hs : a.eval s = u) (hx : a.eval x = v)
    (hrun : (Builtin.append_ #[t, t] o.type #[u, v]).run P w = .ok r w') (h : wpList P ops Q rest (a.put o.dst r) w') : wpList P ops Q (o :: rest) a w :=
  wpList_plain hgd fun K hK => by
    unfold Oper.wp execOp
    simp only [ho, resolve, invoke, builtin, Sem.run_bind, Sem.run_pure, Result.andThen_ok, List.map_toArray, List.map_cons, List.map_nil, hs, hx, hrun]
    exact hK _ _ h
theorem overlaps_bk (w : World) (g gv o lb cb : Nat) (A B : Array Value) (hgv : gv ≠ g) (hA : w.heap[gv]? = some (.cells A 231 (0, 0))) (hB : w.heap[g]? = some (.cells B 231 (0, 0))) (hBs : B.size ≠ 0) :
    (callFunc 165 #[.slice (some ⟨gv, 0, none⟩) 1 1, .slice (some ⟨g, o, none⟩) lb cb]).run Try.prog w = .ok (.value (.bool false)) w := by
  rw [run_callFunc_extern (P := Try.prog) Try.func165 (by kernel_rfl) (by kernel_rfl) (by kernel_rfl) (e := Extern.SlicesOverlaps.overlaps #[47, 47] #[4]) (by kernel_rfl),
    Lib.run_overlaps_apart w 47 4 231 und_bk 2 (fun w => by obtain ⟨i, h1, h2⟩ := bkInfo; simp [sizeOf, typeInfo, h1, h2]) ⟨gv, 0, none⟩ ⟨g, o, none⟩ 1 1 lb cb hgv 231 231 A.size B.size (by simp [World.shape?, hA]) (by simp [World.shape?, hB]) hBs (by simp [World.frozen?, hA]) (by simp [World.frozen?, hA])]
  rfl
set_option maxRecDepth 100000 in
set_option maxHeartbeats 8000000 in
/-- One block is put in at a place. -/
theorem frinsert_any {F : Nat → Prop} {W0 w : World} {items : List Item} (h : Sep F W0 w items) (q : Nat) {g gv n c i : Nat} {l : List Bk} {b : Bk} (hq : items[q]? = some (rowI 231 2 (some ⟨g, 0, none⟩) n c (bkV l))) (hi : i ≤ n) (hn : n ≤ 1000) (hgv : gv ≠ g)
    (hv : Blk w gv 231 #[.int .i64 (b.1 : Int), .int .i64 (b.2 : Int)]) :
    Calls Try.prog 121 #[.slice (some ⟨g, 0, none⟩) n c, .int .i64 (i : Int), .slice (some ⟨gv, 0, none⟩) 1 1] w fun e w' => ∃ g' c', e = .returned (.slice (some ⟨g', 0, none⟩) (n + 1) c') ∧ Sep F W0 w' (items.set q (rowI 231 2 (some ⟨g', 0, none⟩) (n + 1) c' (bkV (l.insertIdx i b)))) := by
  have hP := h.get q hq
  obtain ⟨cur, hh, hnc, hcm, hcs, htk, hll⟩ := row_open hP
  have hlen : l.length = n := by rw [bkV_length] at hll; omega
  have hcm2 : c ≤ 9223372036854775807 := by simpa [maxLen] using hcm
  have hvl : gv < w.heap.size := Blk.lt hv
  have hvc : ∀ j u, [Value.int .i64 (b.1 : Int), .int .i64 (b.2 : Int)][j]? = some u → w.cell? ((⟨gv, 0, none⟩ : Addr).add j) = some u := fun j u hu => by
    rw [bk_addr, Nat.zero_add, hv.cell j]; simpa using hu
  have hmx : Try.prog.follows .mixedOrders = true := by kernel_rfl
  obtain ⟨N, hN⟩ : ∃ N, N = n + 1 := ⟨_, rfl⟩
  have w1 : IntKind.i64.wrap ((n : Int) + 1) = (N : Int) := by rw [wrapF64 _ (by omega) (by omega)]; omega
  rw [← hN]
  have i5 : (n : Int) ≤ (c : Int) := by omega
  have i7 : (i : Int) ≤ (c : Int) := by omega
  have i8 : i ≤ c := by omega
  have i4 : (i : Int) ≤ (n : Int) := by omega
  rcases Nat.lt_or_ge i n with hlt | hge
  · have t1 : ((i : Int) == (n : Int)) = false := by rw [beq_eq_false_iff_ne]; omega
    have t2 : decide ((i : Int) = (n : Int)) = false := by rw [decide_eq_false_iff_not]; omega
    have i10 : ¬ i = n := by omega
    have i13 : ¬ c = i := by omega
    obtain ⟨J, hJ⟩ : ∃ J, J = i + 1 := ⟨_, rfl⟩
    have w2 : IntKind.i64.wrap ((i : Int) + 1) = (J : Int) := by rw [wrapF64 _ (by omega) (by omega)]; omega
    obtain ⟨K, hK⟩ : ∃ K, K = N - i := ⟨_, rfl⟩
    have w3 : IntKind.i64.wrap ((N : Int) - (i : Int)) = (K : Int) := by rw [wrapF64 _ (by omega) (by omega)]; omega
    have j1 : J ≤ N := by omega
    have j2 : (J : Int) ≤ (N : Int) := by omega
    have j3 : i ≤ N := by omega
    have j4 : (i : Int) ≤ (N : Int) := by omega
    rcases Nat.lt_or_ge c N with hgr | hroom
    · obtain ⟨G, X1, X2, X3, h1, h2, h3, h4, h5, h6, h7⟩ := row_insert_new hP hlt hn hN hJ hK hgr hvl hvc
      have HF := hide (h.step q hq (h5.mono (fun k hk => .inl (by subst hk; rfl))) _ h4 (fun g' hg' => .inr (by
        have : w.heap.size = g' := by simpa [rowI, Value.ownBlock] using hg'
        omega)))
      have HN := hide hN
      have t3 : decide ((c : Int) < (N : Int)) = true := by simp; omega
      have t4 : (c : Int) < (N : Int) := by omega
      have k1 : ¬ G = i := by omega
      have k2 : ¬ G = J := by omega
      have H1 := hide h1
      have e3 : ∀ ty dc sc, (Builtin.copy_ #[47, 47] ty #[.slice (some ⟨w.heap.size, J * 2, none⟩) (N - J) dc, .slice (some ⟨g, i * 2, none⟩) (n - i) sc]).run Try.prog { heap := X2.heap, tape := X2.tape, drawn := X2.drawn + 1, os := X2.os, output := X2.output } = .ok (goInt ((N - J : Nat) : Int)) X3 := h3
      clear h hP hh hcs htk hll hlen hv hvc hN hJ hK h1 h4 h5 hq hvl
      go_enter Try.func121, Try.ntmps121
      go_wp2_with (first
        | (at_builtin
           refine wpList_apz rfl (.tmp 34) (.tmp 39) 47 3 rfl rfl rfl H1.out ?_))
      go_still_tail 8, hmx
      go_wp2_with fail
      refine bodyPost_ret (v := .slice (some ⟨w.heap.size, 0, none⟩) N G) (by simp [results, Try.results121, go_sem]) rfl ⟨_, G, rfl, HF.out⟩
    · obtain ⟨X1, X2, h1, h2, h3, h4⟩ := row_insert hP hlt hN hJ hroom hgv hvc
      have HF := hide (h.step q hq (h4.mono (fun k hk => .inl (by subst hk; rfl))) _ h3 (fun g' hg' => .inl hg'))
      have HN := hide hN
      have t3 : decide ((c : Int) < (N : Int)) = false := by simp; omega
      have t4 : ¬ (c : Int) < (N : Int) := by omega
      have k1 : ¬ c = J := by omega
      have k3 : N ≤ c := hroom
      have k4 : (N : Int) ≤ (c : Int) := by omega
      have hov := fun o lb cb => overlaps_bk w g gv o lb cb _ cur hgv hv hh (by omega)
      have e1 : ∀ ty dc sc, (Builtin.copy_ #[47, 47] ty #[.slice (some ⟨g, J * 2, none⟩) (N - J) dc, .slice (some ⟨g, i * 2, none⟩) (N - i) sc]).run Try.prog { heap := w.heap, tape := w.tape, drawn := w.drawn + 1, os := w.os, output := w.output } = .ok (goInt ((N - J : Nat) : Int)) X1 := h1
      clear h hP hh hcs htk hll hlen hv hvc hN hJ hK h3 h4 hq hvl
      go_enter Try.func121, Try.ntmps121
      go_wp2_with (simp only [hov])
      clear hov
      go_still_tail 8, hmx
      go_wp2_with fail
      refine bodyPost_ret (v := .slice (some ⟨g, 0, none⟩) N c) (by simp [results, Try.results121, go_sem]) rfl ⟨g, c, rfl, HF.out⟩
  · obtain rfl : i = n := by omega
    have hrd : Rd w (fun _ => True) 2 (some ⟨gv, 0, none⟩) 1 [.int .i64 (b.1 : Int), .int .i64 (b.2 : Int)] := ⟨by simp, fun _ => ⟨⟨gv, 0, none⟩, rfl, trivial, hvl, hvc⟩⟩
    have hrun : ∃ g' c' w', ((Builtin.append_ #[47, 47] 47 #[.slice (some ⟨g, 0, none⟩) i c, .slice (some ⟨gv, 0, none⟩) 1 1]).run Try.prog w = .ok (.slice (some ⟨g', 0, none⟩) N c') w') ∧ Sep F W0 w' (items.set q (rowI 231 2 (some ⟨g', 0, none⟩) N c' (bkV (l.insertIdx i b)))) := by
      obtain ⟨A', c', w', h1, h2, _⟩ := h.app (P := Try.prog) 47 sBk q hq (c2 := 1) hrd (fun u hu => by
        rcases List.mem_cons.1 hu with rfl | hu
        · rfl
        · rw [List.mem_singleton.1 hu]; rfl) (by omega)
      have hA : ∃ g', A' = some ⟨g', 0, none⟩ := by
        have hql : q < items.length := (List.getElem?_eq_some_iff.1 hq).1
        have h3 : w'.ownsRow 0 231 2 (.slice A' (i + 1) c') (i + 1) _ := h2.get q (List.getElem?_set_self hql)
        rcases h3.2 with ⟨h4, _⟩ | ⟨g', cap, cur', hv', _⟩
        · cases h4
        · injection hv' with e1 e2 e3
          exact ⟨g', e1⟩
      obtain ⟨g', rfl⟩ := hA
      have hx : bkV (l.insertIdx i b) = bkV l ++ [.int .i64 (b.1 : Int), .int .i64 (b.2 : Int)] := by
        rw [bkV_insert l i b (by omega), List.take_of_length_le (by omega), List.drop_eq_nil_of_le (by omega), List.append_nil]
      exact ⟨g', c', w', by rw [hN]; exact h1, by rw [hN, hx]; exact h2⟩
    obtain ⟨g', c', w', h1, h2⟩ := hrun
    have HF := hide h2
    have H1 := hide h1
    clear h hP hh hcs htk hll hlen hv hvc hN h1 h2 hq hvl hrd
    go_enter Try.func121, Try.ntmps121
    go_wp2_with (first
      | (at_builtin
         refine wpList_apr1 rfl (.tmp 23) (.tmp 24) 47 rfl rfl rfl H1.out ?_))
    all_goals refine bodyPost_ret (v := .slice (some ⟨g', 0, none⟩) N c') (by simp [results, Try.results121, go_sem]) rfl ⟨g', c', rfl, HF.out⟩
end Go.Proofs.Ytjphckfbbiehdaa

namespace Go.Proofs.Ytjphckfbbiehdaa
open Go.RowKit Go.Sort
def bkA (b : Bk) : Value := .agg #[.int .i64 (b.1 : Int), .int .i64 (b.2 : Int)]
set_option maxHeartbeats 1000000 in
theorem how1_any (w : World) (a b : Bk) : Calls Try.prog 112 #[bkA a, bkA b] w fun e w' => e = .returned (.int .i64 0) ∧ Below w.heap.size w w' := by
  unfold bkA
  go_enter Try.func112, Try.ntmps112
  go_wp2_with fail
  go_ret
  exact ⟨rfl, ((Chg.refl No w).alloc _ |>.alloc _).below (fun _ h => h.elim)⟩
set_option maxHeartbeats 1000000 in
theorem how2_any (w : World) (a b : Bk) : Calls Try.prog 113 #[bkA a, bkA b] w fun e w' => e = .returned (.int .i64 (cmpZ (a.2 : Int) (b.2 : Int))) ∧ Below w.heap.size w w' := by
  have C := frcmp_any (a.2 : Int) (b.2 : Int)
  unfold bkA
  go_enter Try.func113, Try.ntmps113
  go_wp2_with (go_at_call 92; refine (C _).mono ?_; rintro e w' ⟨rfl, rfl⟩)
  go_ret
  exact ⟨rfl, ((Chg.refl No w).alloc _ |>.alloc _).below (fun _ h => h.elim)⟩
set_option maxHeartbeats 1000000 in
theorem how3_any (w : World) (a b : Bk) : Calls Try.prog 114 #[bkA a, bkA b] w fun e w' => e = .returned (.int .i64 (cmpZ (b.2 : Int) (a.2 : Int))) ∧ Below w.heap.size w w' := by
  have C := frcmp_any (b.2 : Int) (a.2 : Int)
  unfold bkA
  go_enter Try.func114, Try.ntmps114
  go_wp2_with (go_at_call 92; refine (C _).mono ?_; rintro e w' ⟨rfl, rfl⟩)
  go_ret
  exact ⟨rfl, ((Chg.refl No w).alloc _ |>.alloc _).below (fun _ h => h.elim)⟩
/-- Behind the last one taken, or not. -/
def lateZ (last : Nat) (b : Bk) : Int := if last ≤ b.1 then 0 else 1
set_option maxHeartbeats 4000000 in
theorem late_any (w : World) (b : Bk) (lb B last : Nat) (h0 : w.cell? ⟨lb, 0, none⟩ = some (.pointer (some ⟨B, 0, none⟩))) (h1 : w.cell? ⟨B, 2, none⟩ = some (.int .i64 (last : Int))) (hlb : lb < w.heap.size) (hB : B < w.heap.size) :
    Calls Try.prog 115 #[bkA b, .pointer (some ⟨lb, 0, none⟩)] w fun e w' => e = .returned (.int .i64 (lateZ last b)) ∧ Below w.heap.size w w' := by
  have hmx : Try.prog.follows .mixedOrders = true := by kernel_rfl
  unfold bkA
  obtain ⟨W, hW⟩ : ∃ W, W = w.alloc (.cells #[.int .i64 (b.1 : Int), .int .i64 (b.2 : Int)] 231) := ⟨_, rfl⟩
  obtain ⟨g, hg⟩ : ∃ g, g = w.heap.size := ⟨_, rfl⟩
  have HB := hide (show Below w.heap.size w W.drew from by rw [hW]; exact ((Chg.refl No w).alloc _).drew.below (fun _ h => h.elim))
  have c0 : W.cell? ⟨g, 0, none⟩ = some (.int .i64 (b.1 : Int)) := by rw [hW, hg]; exact (Blk.new w _ _).cell 0
  have c1 : W.cell? ⟨lb, 0, none⟩ = some (.pointer (some ⟨B, 0, none⟩)) := by rw [hW, World.cell?_alloc_lt _ _ ⟨lb, 0, none⟩ hlb]; exact h0
  have c2 : W.cell? ⟨B, 2, none⟩ = some (.int .i64 (last : Int)) := by rw [hW, World.cell?_alloc_lt _ _ ⟨B, 2, none⟩ hB]; exact h1
  by_cases hc : last ≤ b.1
  · have t1 : decide ((last : Int) ≤ (b.1 : Int)) = true := by simp [hc]
    have t2 : (last : Int) ≤ (b.1 : Int) := by omega
    have e : lateZ last b = 0 := by unfold lateZ; rw [if_pos hc]
    rw [e]
    clear e hc
    go_enter Try.func115, Try.ntmps115
    go_wp2_with fail
    rw [← hW, ← hg]
    clear hW hg h0 h1
    go_region_held3 (fun w' => w'.cell? ⟨g, 0, none⟩ = some (.int .i64 (b.1 : Int)) ∧ w'.cell? ⟨lb, 0, none⟩ = some (.pointer (some ⟨B, 0, none⟩)) ∧ w'.cell? ⟨B, 2, none⟩ = some (.int .i64 (last : Int))) (first | go_keep | (simp (config := { maxDischargeDepth := 8 }) [*]; done)) (fail)
    all_goals go_wp2_with fail
    all_goals go_ret
    all_goals exact ⟨rfl, HB.out⟩
  · have t1 : decide ((last : Int) ≤ (b.1 : Int)) = false := by simp [hc]
    have t2 : ¬ (last : Int) ≤ (b.1 : Int) := by omega
    have e : lateZ last b = 1 := by unfold lateZ; rw [if_neg hc]
    rw [e]
    clear e hc
    go_enter Try.func115, Try.ntmps115
    go_wp2_with fail
    rw [← hW, ← hg]
    clear hW hg h0 h1
    go_region_held3 (fun w' => w'.cell? ⟨g, 0, none⟩ = some (.int .i64 (b.1 : Int)) ∧ w'.cell? ⟨lb, 0, none⟩ = some (.pointer (some ⟨B, 0, none⟩)) ∧ w'.cell? ⟨B, 2, none⟩ = some (.int .i64 (last : Int))) (first | go_keep | (simp (config := { maxDischargeDepth := 8 }) [*]; done)) (fail)
    all_goals go_wp2_with fail
    all_goals go_ret
    all_goals exact ⟨rfl, HB.out⟩
theorem cell_below {w w' : World} (h : Below w.heap.size w w') {a : Addr} (hl : a.block < w.heap.size) {v : Value} (hc : w.cell? a = some v) : w'.cell? a = some v := by
  rw [← hc]
  unfold World.cell?
  rw [h.block _ hl]
set_option maxRecDepth 100000 in
set_option maxHeartbeats 4000000 in
theorem how5_any (w : World) (a b : Bk) (vb lb B last : Nat) (hv : w.cell? ⟨vb, 0, none⟩ = some (.func (.func 115) #[] #[.pointer (some ⟨lb, 0, none⟩)])) (h0 : w.cell? ⟨lb, 0, none⟩ = some (.pointer (some ⟨B, 0, none⟩))) (h1 : w.cell? ⟨B, 2, none⟩ = some (.int .i64 (last : Int))) (hvb : vb < w.heap.size) (hlb : lb < w.heap.size) (hB : B < w.heap.size) :
    Calls Try.prog 116 #[bkA a, bkA b, .pointer (some ⟨vb, 0, none⟩)] w fun e w' => e = .returned (.int .i64 (cmpZ (lateZ last a) (lateZ last b))) ∧ Below w.heap.size w w' := by
  have hmx : Try.prog.follows .mixedOrders = true := by kernel_rfl
  have C := hide (frcmp_any (lateZ last a) (lateZ last b))
  obtain ⟨W, hW⟩ : ∃ W, W = (w.alloc (.cells #[.int .i64 (a.1 : Int), .int .i64 (a.2 : Int)] 231)).alloc (.cells #[.int .i64 (b.1 : Int), .int .i64 (b.2 : Int)] 231) := ⟨_, rfl⟩
  obtain ⟨g, hg⟩ : ∃ g, g = w.heap.size := ⟨_, rfl⟩
  have hsz : W.heap.size = g + 2 := by rw [hW, hg]; simp
  have hB0 : Below w.heap.size w W.drew := by rw [hW]; exact (((Chg.refl No w).alloc _).alloc _).drew.below (fun _ h => h.elim)
  have bA : Blk W g 231 #[.int .i64 (a.1 : Int), .int .i64 (a.2 : Int)] := by rw [hW, hg]; exact (Blk.new w _ _).alloc _
  have bB : Blk W (g + 1) 231 #[.int .i64 (b.1 : Int), .int .i64 (b.2 : Int)] := by
    have h2 : (w.alloc (.cells #[.int .i64 (a.1 : Int), .int .i64 (a.2 : Int)] 231)).heap.size = g + 1 := by rw [hg]; simp
    rw [hW, ← h2]; exact Blk.new _ _ _
  have c0 := fun d os => cell_regrown (bA.cell 0) d os
  have c1 := fun d os => cell_regrown (bA.cell 1) d os
  have c2 := fun d os => cell_regrown (bB.cell 0) d os
  have c3 := fun d os => cell_regrown (bB.cell 1) d os
  have hB1 : Below w.heap.size w W := by rw [hW]; exact (((Chg.refl No w).alloc _).alloc _).below (fun _ h => h.elim)
  have d0 := fun d os => cell_regrown (cell_below hB1 hvb hv) d os
  have hs1 := hB1.size
  have L1 := hide (fun (x : Bk) d os => Calls.regrown_of (d := d) (os := os) (late_any (grow (redrawn W d) os) x lb B last (cell_regrown (cell_below hB1 hlb h0) d os) (cell_regrown (cell_below hB1 hB h1) d os) (by have := (below_regrown W d os).size; omega) (by have := (below_regrown W d os).size; omega)))
  have C1 := hide (fun d os => Calls.regrown_of (d := d) (os := os) ((frcmp_any (lateZ last a) (lateZ last b) (grow (redrawn W d) os)).mono (fun e w' ⟨h1, h2⟩ => ⟨h1, by rw [h2]; exact Below.refl _ _⟩)))
  obtain ⟨za, hza⟩ : ∃ z, lateZ last a = z := ⟨_, rfl⟩
  obtain ⟨zb, hzb⟩ : ∃ z, lateZ last b = z := ⟨_, rfl⟩
  have LA := hide (L1.out a)
  have LB := hide (L1.out b)
  rw [hza] at LA
  rw [hzb] at LB
  rw [hza, hzb] at C1 ⊢
  have HB := hide hB1
  unfold bkA at LA LB ⊢
  go_enter Try.func116, Try.ntmps116
  go_wp2_with fail
  rw [← hW, ← hg]
  clear hW hg h0 h1 hv hB0 hB1 bA bB hsz hs1 L1 C hza hzb
  refine wp_region_quiet_below (by assumption) (by kernel_rfl) ?_
  repeat (quiet_step (first | exact LA.out _ _ | exact LB.out _ _ | exact C1.out _ _))
  refine wpQuiet_nil ?_
  intro _ hw'
  obtain ⟨⟨dq, osq⟩, hw''⟩ := hw'
  subst hw''
  go_wp2_with fail
  go_ret
  exact ⟨rfl, HB.out.trans ((below_regrown W dq osq).mono HB.out.size)⟩
end Go.Proofs.Ytjphckfbbiehdaa

namespace Go.Proofs.Ytjphckfbbiehdaa
open Go.RowKit
theorem enter_of {f : FuncId} {fn : Func} {c : Code} (hf : Try.prog.funcs[f]? = some fn) (hname : (fn.name == "runtime.NumGoroutine") = false) (hb : fn.body = some c) (args : Array Value) (w : World) : (callFunc f args).run Try.prog w = .ok (.enter f args) w := by
  have h1 : fn.name ≠ "runtime.NumGoroutine" := by simpa using hname
  simp [callFunc, hf, h1, hb]
/-- A function that chooses as the policy says. -/
def HowK (k : Nat) (caps : Array Value) (p : Int) (last : Nat) (w : World) : Prop :=
  (∀ args W, (callFunc k args).run Try.prog W = .ok (.enter k args) W) ∧ ∀ a b : Bk, ∃ z : Int, (∀ w', Below w.heap.size w w' → Calls Try.prog k (#[bkA a, bkA b] ++ caps) w' (fun e w'' => e = .returned (.int .i64 z) ∧ Below w'.heap.size w' w'')) ∧ decide (z < 0) = betterB p last a b
theorem howk1 (w : World) (last : Nat) : HowK 112 #[] 1 last w := ⟨enter_of Try.func112 (by kernel_rfl) rfl, fun a b => ⟨0, fun w' _ => how1_any w' a b, by simp [betterB]⟩⟩
theorem howk2 (w : World) (last : Nat) : HowK 113 #[] 2 last w := ⟨enter_of Try.func113 (by kernel_rfl) rfl, fun a b => ⟨_, fun w' _ => how2_any w' a b, by rw [cmp_lt]; simp [betterB]⟩⟩
theorem howk4 (w : World) (last : Nat) : HowK 114 #[] 4 last w := ⟨enter_of Try.func114 (by kernel_rfl) rfl, fun a b => ⟨_, fun w' _ => how3_any w' a b, by rw [cmp_lt]; simp [betterB]⟩⟩
theorem howk3 (w : World) (vb lb B last : Nat) (hv : w.cell? ⟨vb, 0, none⟩ = some (.func (.func 115) #[] #[.pointer (some ⟨lb, 0, none⟩)])) (h0 : w.cell? ⟨lb, 0, none⟩ = some (.pointer (some ⟨B, 0, none⟩))) (h1 : w.cell? ⟨B, 2, none⟩ = some (.int .i64 (last : Int))) (hvb : vb < w.heap.size) (hlb : lb < w.heap.size) (hB : B < w.heap.size) :
    HowK 116 #[.pointer (some ⟨vb, 0, none⟩)] 3 last w := ⟨enter_of Try.func116 (by kernel_rfl) rfl, fun a b => ⟨_, fun w' hw => how5_any w' a b vb lb B last (cell_below hw hvb hv) (cell_below hw hlb h0) (cell_below hw hB h1) (Nat.lt_of_lt_of_le hvb hw.size) (Nat.lt_of_lt_of_le hlb hw.size) (Nat.lt_of_lt_of_le hB hw.size), by
  rw [cmp_lt]
  unfold lateZ betterB
  by_cases h1 : last ≤ a.1 <;> by_cases h2 : last ≤ b.1 <;> simp [h1, h2] <;> omega⟩⟩
set_option maxRecDepth 100000 in
set_option maxHeartbeats 4000000 in
theorem how_any (w : World) (B last : Nat) (p : Int) (h1 : w.cell? ⟨B, 2, none⟩ = some (.int .i64 (last : Int))) (hB : B < w.heap.size) :
    Calls Try.prog 48 #[.pointer (some ⟨B, 0, none⟩), .int .i64 p] w fun e w' => Below w.heap.size w w' ∧ ((1 ≤ p ∧ p ≤ 4 ∧ ∃ k caps, e = .returned (.tuple #[.func (.func k) #[] caps, .bool true]) ∧ HowK k caps p last w') ∨ (¬ (1 ≤ p ∧ p ≤ 4) ∧ ∃ v, e = .returned (.tuple #[v, .bool false]))) := by
  by_cases p1 : p = 1
  · subst p1
    go_enter Try.func48, Try.ntmps48
    go_wp2_with fail
    refine bodyPost_ret (v := .tuple #[.func (.func 112) #[] #[], .bool true]) (by simp [results, Try.results48, go_sem]) rfl ⟨((Chg.refl No w).alloc _).below (fun _ h => h.elim), .inl ⟨by omega, by omega, _, _, rfl, howk1 _ last⟩⟩
  by_cases p2 : p = 2
  · subst p2
    go_enter Try.func48, Try.ntmps48
    go_wp2_with fail
    refine bodyPost_ret (v := .tuple #[.func (.func 113) #[] #[], .bool true]) (by simp [results, Try.results48, go_sem]) rfl ⟨((Chg.refl No w).alloc _).below (fun _ h => h.elim), .inl ⟨by omega, by omega, _, _, rfl, howk2 _ last⟩⟩
  by_cases p4 : p = 4
  · subst p4
    go_enter Try.func48, Try.ntmps48
    go_wp2_with fail
    refine bodyPost_ret (v := .tuple #[.func (.func 114) #[] #[], .bool true]) (by simp [results, Try.results48, go_sem]) rfl ⟨((Chg.refl No w).alloc _).below (fun _ h => h.elim), .inl ⟨by omega, by omega, _, _, rfl, howk4 _ last⟩⟩
  by_cases p3 : p = 3
  · subst p3
    have f0 : ((w.alloc (.cells #[.pointer (some ⟨B, 0, none⟩)] 120)).alloc (.cells #[.nilFunc] 232)).cell? ⟨w.heap.size + 1, 0, none⟩ = some .nilFunc := by
      have h := (Blk.new (w.alloc (.cells #[.pointer (some ⟨B, 0, none⟩)] 120)) 232 #[.nilFunc]).cell 0
      rw [show (w.alloc (.cells #[.pointer (some ⟨B, 0, none⟩)] 120)).heap.size = w.heap.size + 1 by simp] at h
      exact h
    have f1 : ((w.alloc (.cells #[.pointer (some ⟨B, 0, none⟩)] 120)).alloc (.cells #[.nilFunc] 232)).frozen? ⟨w.heap.size + 1, 0, none⟩ = false := by
      have h := (Blk.new (w.alloc (.cells #[.pointer (some ⟨B, 0, none⟩)] 120)) 232 #[.nilFunc]).frozen 0
      rw [show (w.alloc (.cells #[.pointer (some ⟨B, 0, none⟩)] 120)).heap.size = w.heap.size + 1 by simp] at h
      exact h
    have hst : (store ⟨w.heap.size + 1, 0, none⟩ (.func (.func 115) #[] #[.pointer (some ⟨w.heap.size, 0, none⟩)])).run Try.prog ((w.alloc (.cells #[.pointer (some ⟨B, 0, none⟩)] 120)).alloc (.cells #[.nilFunc] 232)) = .ok () (((w.alloc (.cells #[.pointer (some ⟨B, 0, none⟩)] 120)).alloc (.cells #[.nilFunc] 232)).setCell ⟨w.heap.size + 1, 0, none⟩ (.func (.func 115) #[] #[.pointer (some ⟨w.heap.size, 0, none⟩)])) := by
      rw [run_store Try.prog _ _ (.func (.func 115) #[] #[.pointer (some ⟨w.heap.size, 0, none⟩)]) _ (by rfl), f0]
      simp [f1]
    obtain ⟨W, hW⟩ : ∃ W, W = ((w.alloc (.cells #[.pointer (some ⟨B, 0, none⟩)] 120)).alloc (.cells #[.nilFunc] 232)).setCell ⟨w.heap.size + 1, 0, none⟩ (.func (.func 115) #[] #[.pointer (some ⟨w.heap.size, 0, none⟩)]) := ⟨_, rfl⟩
    have hbel : Below w.heap.size w W := by rw [hW]; exact ((((Chg.refl No w).alloc _).alloc _).setCell (.inr (Nat.le_succ _)) _).below (fun _ h => h.elim)
    have bA : Blk W w.heap.size 120 #[.pointer (some ⟨B, 0, none⟩)] := by
      rw [hW]; exact ((Blk.new w _ _).alloc _).far (by simp) _
    have bV : W.cell? ⟨w.heap.size + 1, 0, none⟩ = some (.func (.func 115) #[] #[.pointer (some ⟨w.heap.size, 0, none⟩)]) := by
      have h := (Blk.new (w.alloc (.cells #[.pointer (some ⟨B, 0, none⟩)] 120)) 232 #[.nilFunc])
      rw [show (w.alloc (.cells #[.pointer (some ⟨B, 0, none⟩)] 120)).heap.size = w.heap.size + 1 by simp] at h
      rw [hW]
      exact (h.set_ 0 (.func (.func 115) #[] #[.pointer (some ⟨w.heap.size, 0, none⟩)])).cell 0
    have hsz : W.heap.size = w.heap.size + 2 := by rw [hW]; simp
    have HK := hide (howk3 W (w.heap.size + 1) w.heap.size B last bV (bA.cell 0) (cell_below hbel hB h1) (by omega) (by omega) (by omega))
    have HB := hide hbel
    rw [← hW] at hst
    clear hW bA bV hbel hsz h1
    go_enter Try.func48, Try.ntmps48
    go_wp2_with fail
    refine bodyPost_ret (v := .tuple #[.func (.func 116) #[] #[.pointer (some ⟨w.heap.size + 1, 0, none⟩)], .bool true]) (by simp [results, Try.results48, go_sem]) rfl ⟨HB.out, .inl ⟨by omega, by omega, _, _, rfl, HK.out⟩⟩
  · have q1 : (p == 1) = false := by rw [beq_eq_false_iff_ne]; exact p1
    have q2 : (p == 2) = false := by rw [beq_eq_false_iff_ne]; exact p2
    have q3 : (p == 3) = false := by rw [beq_eq_false_iff_ne]; exact p3
    have q4 : (p == 4) = false := by rw [beq_eq_false_iff_ne]; exact p4
    go_enter Try.func48, Try.ntmps48
    go_wp2_with fail
    refine bodyPost_ret (v := .tuple #[.nilFunc, .bool false]) (by simp [results, Try.results48, go_sem]) rfl ⟨((Chg.refl No w).alloc _).below (fun _ h => h.elim), .inr ⟨by omega, _, rfl⟩⟩
end Go.Proofs.Ytjphckfbbiehdaa
