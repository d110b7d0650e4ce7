/- The law ShareTold: the walk. Arguments that are slices, opened to lists of cells. A graph that comes in, opened. -/
import Derived.Test.YtikaaekhghcodaaSShareTold10
import Derived.Test.YtikaaekhghcodaaSShareTold13
import Derived.Test.YtikaaekhghcodaaSShareTold0
import Derived.Deep.Slices
import Derived.Deep.Fields
import Derived.ChangeSame
import Derived.Test.YtikaaekhghcodaaSShareTold2
set_option linter.unusedSimpArgs false
set_option linter.unusedVariables false
namespace Go.Proofs.Ytikaaekhghcodaa
open Go.RowKit
/-- The way told is short. -/
theorem bfs_len {gs : List (List Val)} : ∀ (f m : Nat) (L : List PW) (seen : List Pr) (u : List Nat), (∀ x ∈ L, x.2.length ≤ m) → bfs gs f L seen = some u → u.length ≤ m + f
  | 0, _, _, _, _, _, h => by cases h
  | f + 1, m, L, seen, u, hL, h => by
    have hw : ∀ x ∈ wrk L, x.1.2.length ≤ m := fun x hx => hL _ (wrk_mem.1 hx).1
    have h' : (if L = [] then none else match dif1 gs L with | some w => some w | none => bfs gs f (expd gs L seen).2 (expd gs L seen).1) = some u := h
    split at h'
    · cases h'
    · cases hd : dif1 gs L with
      | some v =>
        rw [hd] at h'
        injection h' with h'
        subst h'
        unfold dif1 at hd
        obtain ⟨x, hx, he⟩ := List.exists_of_findSome?_eq_some hd
        split at he
        · injection he with he
          subst he
          have := hw x hx
          simp only [List.length_append, List.length_cons, List.length_nil]
          omega
        · cases he
      | none =>
        rw [hd] at h'
        have key : ∀ (W : List (PW × Nat)) (s : List Pr × List PW), (∀ x ∈ W, x.1.2.length ≤ m) → (∀ y ∈ s.2, y.2.length ≤ m + 1) → ∀ y ∈ (W.foldl (fun s x => exK gs x s) s).2, y.2.length ≤ m + 1 := by
          intro W
          induction W with
          | nil => intro s _ h; exact h
          | cons x W ih =>
            intro s h1 h2
            refine ih _ (fun z hz => h1 z (List.mem_cons_of_mem _ hz)) ?_
            show ∀ y ∈ (exK gs x s).2, y.2.length ≤ m + 1
            unfold exK
            split
            · exact h2
            · split
              · exact h2
              · intro y hy
                rcases List.mem_append.1 hy with hy | hy
                · exact h2 y hy
                · rw [List.mem_singleton.1 hy]
                  have := h1 x (List.mem_cons_self ..)
                  simpa using this
        have := bfs_len f (m + 1) _ _ u (key (wrk L) (seen, []) hw (fun y hy => by cases hy)) h'
        omega
theorem toldR_len (gs : List (List Val)) (p : Pr) : (toldR gs p).1.length ≤ 1000 := by
  unfold toldR
  cases h : bfs gs 600 [(p, [])] [] with
  | none => simp
  | some u =>
    have := bfs_len 600 0 _ _ u (fun x hx => by rw [List.mem_singleton.1 hx]; simp) h
    show u.length ≤ 1000
    omega
set_option maxRecDepth 100000 in
set_option maxHeartbeats 4000000 in
theorem shareTold_no (w : World) (AO AR : Option Addr) (nO cO nR cR : Nat) (a b : Int) (obs : List Ob) (roots : List Val) (hO : ObsRd w (fun _ => True) AO nO obs) (hR : Rd w (fun _ => True) 2 AR nR (vals roots)) (hz : gcheck nO nR obs roots ≠ 0) :
    Calls Try.prog 3 #[.agg #[.slice AO nO cO, .slice AR nR cR], .int .i64 a, .int .i64 b] w fun e w' => e = .returned (.bool true) ∧ Below w.heap.size w w' := by
  have hB0 : Below w.heap.size w (w.alloc (.cells #[.slice AO nO cO, .slice AR nR cR] 25)) := (Below.refl _ w).alloc (Nat.le_refl _) _
  have BA := hide (Blk.new w 25 #[.slice AO nO cO, .slice AR nR cR])
  have HB0 := hide hB0
  have C1 := hide (fun w' (hb : Below w.heap.size w w') => told_bad w' AO AR nO cO nR cR obs roots hz (hO.below hb) (hR.below hb) a b)
  have C4 := hide (fun w' (hb : Below w.heap.size w w') => refCheck_any w' AO AR nO cO nR cR obs roots (hO.below hb) (hR.below hb))
  obtain ⟨x, hx⟩ : ∃ x, gcheck nO nR obs roots = x := ⟨_, rfl⟩
  simp only [hx] at C1 C4
  rw [hx] at hz
  have y1 : (x != 0) = true := by rw [bne_iff_ne]; exact hz
  have y2 : (x == 0) = false := by simp [hz]
  obtain ⟨a1, a2, a3⟩ := BA.out.rules
  clear hz hx hB0
  go_enter Try.func3, Try.ntmps3
  go_wp2_with fail
  refine (C1.out _ HB0.out).mono ?_
  rintro e w1 ⟨rfl, hb1⟩
  have HB1 := hide (HB0.out.trans (hb1.mono HB0.out.size))
  have BA1 := hide (BA.out.below_ hb1)
  clear hb1 HB0 BA C1 a1 a2 a3
  obtain ⟨a1, a2, a3⟩ := BA1.out.rules
  go_wp2_with fail
  refine (C4.out _ HB1.out).mono ?_
  rintro e w4 ⟨rfl, hb4⟩
  have HB4 := hide (HB1.out.trans (hb4.mono HB1.out.size))
  clear hb4 HB1 BA1 C4 a1 a2 a3
  go_wp2_with fail
  go_ret
  exact ⟨rfl, HB4.out⟩
set_option maxRecDepth 100000 in
set_option maxHeartbeats 4000000 in
theorem shareTold_arg (w : World) (AO AR : Option Addr) (nO cO nR cR : Nat) (a b : Int) (obs : List Ob) (roots : List Val) (hO : ObsRd w (fun _ => True) AO nO obs) (hR : Rd w (fun _ => True) 2 AR nR (vals roots)) (hz : gcheck nO nR obs roots = 0) (hv : a < 0 ∨ b < 0 ∨ (nO : Int) ≤ a ∨ (nO : Int) ≤ b) :
    Calls Try.prog 3 #[.agg #[.slice AO nO cO, .slice AR nR cR], .int .i64 a, .int .i64 b] w fun e w' => e = .returned (.bool true) ∧ Below w.heap.size w w' := by
  have hB0 : Below w.heap.size w (w.alloc (.cells #[.slice AO nO cO, .slice AR nR cR] 25)) := (Below.refl _ w).alloc (Nat.le_refl _) _
  have BA := hide (Blk.new w 25 #[.slice AO nO cO, .slice AR nR cR])
  have HB0 := hide hB0
  have C1 := hide (fun w' (hb : Below w.heap.size w w') => told_far w' AO AR nO cO nR cR obs roots hz (hO.below hb) (hR.below hb) a b hv)
  have C4 := hide (fun w' (hb : Below w.heap.size w w') => refCheck_any w' AO AR nO cO nR cR obs roots (hO.below hb) (hR.below hb))
  simp only [hz] at C4
  obtain ⟨a1, a2, a3⟩ := BA.out.rules
  clear hz hB0
  rcases (show a < 0 ∨ (¬ a < 0 ∧ b < 0) ∨ (¬ a < 0 ∧ ¬ b < 0 ∧ (nO : Int) ≤ a) ∨ (¬ a < 0 ∧ ¬ b < 0 ∧ ¬ (nO : Int) ≤ a ∧ (nO : Int) ≤ b) by omega) with h1 | ⟨h1, h2⟩ | ⟨h1, h2, h3⟩ | ⟨h1, h2, h3, h4⟩
  all_goals
    clear hv
    go_enter Try.func3, Try.ntmps3
    go_wp2_with fail
    refine (C1.out _ HB0.out).mono ?_
    rintro e w1 ⟨rfl, hb1⟩
    have HB1 := hide (HB0.out.trans (hb1.mono HB0.out.size))
    have BA1 := hide (BA.out.below_ hb1)
    clear hb1 HB0 BA C1 a1 a2 a3
    obtain ⟨a1, a2, a3⟩ := BA1.out.rules
    go_wp2_with fail
    refine (C4.out _ HB1.out).mono ?_
    rintro e w4 ⟨rfl, hb4⟩
    have HB4 := hide (HB1.out.trans (hb4.mono HB1.out.size))
    have BA4 := hide (BA1.out.below_ hb4)
    clear hb4 HB1 BA1 C4 a1 a2 a3
    obtain ⟨a1, a2, a3⟩ := BA4.out.rules
    go_wp2_with fail
    go_ret
    exact ⟨rfl, HB4.out⟩
set_option maxRecDepth 100000 in
set_option maxHeartbeats 4000000 in
theorem shareTold_ok (w : World) (AO AR : Option Addr) (nO cO nR cR : Nat) (a b : Nat) (obs : List Ob) (roots : List Val) (hO : ObsRd w (fun _ => True) AO nO obs) (hR : Rd w (fun _ => True) 2 AR nR (vals roots)) (hz : gcheck nO nR obs roots = 0) (ha : a < nO) (hb : b < nO) :
    Calls Try.prog 3 #[.agg #[.slice AO nO cO, .slice AR nR cR], .int .i64 (a : Int), .int .i64 (b : Int)] w fun e w' => e = .returned (.bool true) ∧ Below w.heap.size w w' := by
  have hB0 : Below w.heap.size w (w.alloc (.cells #[.slice AO nO cO, .slice AR nR cR] 25)) := (Below.refl _ w).alloc (Nat.le_refl _) _
  have BA := hide (Blk.new w 25 #[.slice AO nO cO, .slice AR nR cR])
  have HB0 := hide hB0
  have C1 := hide (fun w' (hb' : Below w.heap.size w w') => told_ok w' AO AR nO cO nR cR obs roots hz (hO.below hb') (hR.below hb') a b ha hb)
  have C4 := hide (fun w' (hb' : Below w.heap.size w w') => refCheck_any w' AO AR nO cO nR cR obs roots (hO.below hb') (hR.below hb'))
  have C5 := hide (fun w' (hb' : Below w.heap.size w w') => rtold_any w' AO AR nO cO nR cR obs roots (gok_of hO hz) (hO.below hb') a b ha hb)
  simp only [hz] at C4
  generalize hT : toldR (obs.map Ob.fields) (a, b) = T at C1 C5
  have hlen : T.1.length ≤ 1000 := by rw [← hT]; exact toldR_len _ _
  obtain ⟨U, is⟩ := T
  dsimp only at C1 C5 hlen
  obtain ⟨a1, a2, a3⟩ := BA.out.rules
  have h1 : ¬ (a : Int) < 0 := by omega
  have h2 : ¬ (b : Int) < 0 := by omega
  have h3 : ¬ (nO : Int) ≤ (a : Int) := by omega
  have h4 : ¬ (nO : Int) ≤ (b : Int) := by omega
  clear hz hB0 hT
  go_enter Try.func3, Try.ntmps3
  go_wp2_with fail
  refine (C1.out _ HB0.out).mono ?_
  rintro e w1 ⟨A1, n1, c1, rfl, hP1⟩
  have hb1 := hP1.below_
  have HB1 := hide (HB0.out.trans (hb1.mono HB0.out.size))
  have BA1 := hide (BA.out.below_ hb1)
  have HT1 := hide (hP1.rd_ 0 rfl)
  have hn1 : U.length = n1 := by have := HT1.out.1; simpa [nts] using this
  clear hb1 hP1 HB0 BA C1 a1 a2 a3
  obtain ⟨a1, a2, a3⟩ := BA1.out.rules
  go_wp2_with fail
  refine (C4.out _ HB1.out).mono ?_
  rintro e w4 ⟨rfl, hb4⟩
  have HB4 := hide (HB1.out.trans (hb4.mono HB1.out.size))
  have BA4 := hide (BA1.out.below_ hb4)
  have HT4 := hide (HT1.out.below hb4)
  clear hb4 HB1 BA1 C4 HT1 a1 a2 a3
  obtain ⟨a1, a2, a3⟩ := BA4.out.rules
  have a5 : w4.cell? ⟨w.heap.size, 0, none⟩ = some (.slice AO nO cO) := by rw [a1]; rfl
  go_wp2_with fail
  refine (C5.out _ HB4.out).mono ?_
  rintro e w5 ⟨A5, n5, c5, rfl, hP5⟩
  have hb5 := hP5.below_
  have HB5 := hide (HB4.out.trans (hb5.mono HB4.out.size))
  have hn5 : U.length = n5 := by have := (hP5.rd_ 0 rfl).1; simpa [nts] using this
  obtain rfl : n1 = n5 := by omega
  have C6 := hide (ints_same w5 _ _ A1 A5 n1 c1 c5 (U.map fun k : Nat => (k : Int)) (by omega) (HT4.out.below hb5) (hP5.rd_ 0 rfl))
  clear hb5 hP5 HB4 BA4 C5 HT4 a1 a2 a3 a5
  cases is
  all_goals
    go_wp2_with fail
    refine C6.out.mono ?_
    rintro e w6 ⟨rfl, hb6⟩
    have HB6 := hide (HB5.out.trans (hb6.mono HB5.out.size))
    clear hb6 HB5
    go_wp2_with fail
    go_ret
    exact ⟨rfl, HB6.out⟩
theorem shareTold_walk (w : World) (AO AR : Option Addr) (nO cO nR cR : Nat) (a b : Int) (obs : List Ob) (roots : List Val) (hO : ObsRd w (fun _ => True) AO nO obs) (hR : Rd w (fun _ => True) 2 AR nR (vals roots)) :
    Calls Try.prog 3 #[.agg #[.slice AO nO cO, .slice AR nR cR], .int .i64 a, .int .i64 b] w fun e w' => e = .returned (.bool true) ∧ Below w.heap.size w w' := by
  by_cases hz : gcheck nO nR obs roots = 0
  · by_cases hv : a < 0 ∨ b < 0 ∨ (nO : Int) ≤ a ∨ (nO : Int) ≤ b
    · exact shareTold_arg w AO AR nO cO nR cR a b obs roots hO hR hz hv
    · obtain ⟨x, rfl⟩ := int_nat (show 0 ≤ a by omega)
      obtain ⟨y, rfl⟩ := int_nat (show 0 ≤ b by omega)
      exact shareTold_ok w AO AR nO cO nR cR x y obs roots hO hR hz (by omega) (by omega)
  · exact shareTold_no w AO AR nO cO nR cR a b obs roots hO hR hz
end Go.Proofs.Ytikaaekhghcodaa

namespace Go.Proofs.Ytikaaekhghcodaa
open Go.ChangeShapes Go.WideShapes Go.Deep Go.RowKit
theorem block_lt_ {w : World} {a : Addr} {v : Value} (h : w.cell? a = some v) : a.block < w.heap.size := by
  unfold World.cell? at h
  split at h
  · rename_i hb; exact (Array.getElem?_eq_some_iff.1 hb).1
  · cases h
end Go.Proofs.Ytikaaekhghcodaa

namespace Go.Proofs.Ytikaaekhghcodaa
open Go.ChangeShapes Go.WideShapes Go.Deep Go.RowKit
theorem vals_at_ (l : List Val) (q r : Nat) (hr : r < 2) : (vals l)[q * 2 + r]? = (l[q]?).bind fun d => [Value.bool d.1, .int .i64 d.2][r]? := by
  unfold vals
  induction l generalizing q with
  | nil => rfl
  | cons a l ih =>
    rw [List.flatMap_cons]
    cases q with
    | zero => rw [List.getElem?_append_left (by simp; omega)]; simp
    | succ q => rw [List.getElem?_append_right (by simp; omega), show (q + 1) * 2 + r - [Value.bool a.1, .int .i64 a.2].length = q * 2 + r by simp; omega, ih]; rfl
section
variable {H : Type} {enc : TypeId × Value → H} {P : Program} {w : World} {base : Nat} {spare : Nat → Bool} {held : Bool}
/-- A slice of structs of a bool and an int. -/
theorem trod_vals {t e : TypeId} {f0 f1 : Field} {fuel : Nat} {cs : List Value} {x : DataW H × List MemPlace} (ht : P.underlying t = some (.slice e)) (he : P.underlying e = some (.struct #[f0, f1])) (hone : oneCellFields P #[f0, f1] = true) (hC : P.cellsOf e = 2)
    (i0 : P.underlying f0.type = some .bool) (i1 : P.underlying f1.type = some (.int .i64)) (h : DataW.trod enc P w base spare held fuel t cs = some x) :
    ∃ (A : Option Addr) (n c : Nat) (l : List Val), cs = [.slice A n c] ∧ n ≤ 9223372036854775807 ∧ Rd w (fun _ => True) 2 A n (vals l) := by
  rcases open_slice ht h with ⟨h0, _⟩ | ⟨a, n, c, m, n0, D, Pl, rfl, _, hl, hm, hmm, _, hx⟩
  · exact ⟨none, 0, 0, [], h0, by omega, Rd.nil⟩
  · have hle : n ≤ m := by rw [hmm]; split <;> omega
    have hmx : c ≤ 9223372036854775807 := by simpa [maxLen] using hm
    have key : ∀ i, i < n → ∃ x : Val, w.cell? (a.add (i * 2)) = some (.bool x.1) ∧ w.cell? (a.add (i * 2 + 1)) = some (.int .i64 x.2) := by
      intro i hi'
      obtain ⟨cs', h1, h2⟩ := hx i (by omega)
      rw [hC] at h1
      obtain ⟨_, hcl, hat⟩ := World.cells?_some h1
      obtain ⟨y0, y1, n', _, _, hj0, hj1⟩ := trod_struct2 he h2
      obtain ⟨o0, k0⟩ := hone_of hone 0 f0 rfl
      obtain ⟨o1, k1⟩ := hone_of hone 1 f1 rfl
      rw [o0, k0] at hj0
      rw [o1, k1] at hj1
      obtain ⟨b, e0, _⟩ := DataW.trod_bool i0 hj0
      obtain ⟨k, e1, _, _⟩ := DataW.trod_int i1 hj1
      refine ⟨(b, k), ?_, ?_⟩
      · have h3 := hat 0 (by omega)
        have e2 := congrArg (fun l => l[0]?) e0
        have e3 : cs'[0]? = some (.bool b) := by simpa [List.getElem?_take, List.getElem?_drop] using e2
        rw [← e3, ← h3, add_of_add, Nat.add_zero]
      · have h3 := hat 1 (by omega)
        have e2 := congrArg (fun l => l[0]?) e1
        have e3 : cs'[1]? = some (.int .i64 k) := by simpa [List.getElem?_take, List.getElem?_drop] using e2
        rw [← e3, ← h3, add_of_add]
    obtain ⟨f, hf'⟩ := choose_lt key
    refine ⟨some a, n, c, (List.range n).map f, rfl, by omega, ?_, ?_⟩
    · rw [vals_length]; simp
    · intro hn
      refine ⟨a, rfl, trivial, ?_, ?_⟩
      · have := block_lt_ (hf' 0 hn).1
        simpa [block_of_add] using this
      · intro j u hu
        obtain ⟨q, r, hr, rfl⟩ : ∃ q r, r < 2 ∧ j = q * 2 + r := ⟨j / 2, j % 2, Nat.mod_lt _ (by omega), by omega⟩
        rw [vals_at_ _ _ _ hr] at hu
        simp only [List.getElem?_map] at hu
        rcases Nat.lt_or_ge q n with hq | hq
        case inr => rw [List.getElem?_eq_none (by simp; omega)] at hu; cases hu
        rw [List.getElem?_range hq] at hu
        simp only [Option.map_some, Option.bind_some] at hu
        obtain ⟨g0, g1⟩ := hf' q hq
        rcases (show r = 0 ∨ r = 1 by omega) with rfl | rfl
        · simp at hu; subst hu; simpa using g0
        · simp at hu; subst hu; exact g1
/-- A slice of structs of one such slice. -/
theorem trod_objs {t e tf te : TypeId} {f f0 f1 : Field} {fuel : Nat} {cs : List Value} {x : DataW H × List MemPlace} (ht : P.underlying t = some (.slice e)) (he : P.underlying e = some (.struct #[f])) (hone1 : oneCellFields P #[f] = true) (hC1 : P.cellsOf e = 1) (hft : f.type = tf)
    (htf : P.underlying tf = some (.slice te)) (hte : P.underlying te = some (.struct #[f0, f1])) (hone : oneCellFields P #[f0, f1] = true) (hC : P.cellsOf te = 2)
    (i0 : P.underlying f0.type = some .bool) (i1 : P.underlying f1.type = some (.int .i64)) (h : DataW.trod enc P w base spare held fuel t cs = some x) :
    ∃ (A : Option Addr) (n c : Nat) (l : List Ob), cs = [.slice A n c] ∧ n ≤ 9223372036854775807 ∧ ObsRd w (fun _ => True) A n l := by
  rcases open_slice1 ht hC1 h with ⟨h0, _⟩ | ⟨a, n, c, m, n0, V, D, Pl, rfl, _, hl, hm, hmm, _, hx⟩
  · exact ⟨none, 0, 0, [], h0, by omega, ⟨Rd.nil, fun o ho => by cases ho⟩⟩
  · have hle : n ≤ m := by rw [hmm]; split <;> omega
    have hmx : c ≤ 9223372036854775807 := by simpa [maxLen] using hm
    have key : ∀ i, i < n → ∃ o : Ob, w.cell? (a.add i) = some o.val ∧ Rd w (fun _ => True) 2 o.A o.n (vals o.fields) := by
      intro i hi'
      obtain ⟨h1, h2⟩ := hx i (by omega)
      obtain ⟨y0, n', _, _, hj0⟩ := trod_struct1 he h2
      obtain ⟨o0, k0⟩ := hone_of hone1 0 f rfl
      rw [o0, k0, hft] at hj0
      obtain ⟨A', n1, c1, l1, e1, _, hr⟩ := trod_vals htf hte hone hC i0 i1 hj0
      refine ⟨⟨A', n1, c1, l1⟩, ?_, hr⟩
      have e2 := congrArg (fun l => l[0]?) e1
      have e3 : V i = .slice A' n1 c1 := by simpa using e2
      rw [h1, e3]; rfl
    haveI : Inhabited Ob := ⟨⟨none, 0, 0, []⟩⟩
    obtain ⟨g, hg⟩ := choose_lt key
    refine ⟨some a, n, c, (List.range n).map g, rfl, by omega, ⟨⟨by simp, fun hn => ⟨a, rfl, trivial, ?_, ?_⟩⟩, fun o ho => ?_⟩⟩
    · have := block_lt_ (hg 0 hn).1
      simpa [block_of_add] using this
    · intro j u hu
      simp only [List.getElem?_map] at hu
      rcases Nat.lt_or_ge j n with hq | hq
      case inr => rw [List.getElem?_eq_none (by simp; omega)] at hu; cases hu
      rw [List.getElem?_range hq] at hu
      simp at hu
      subst hu
      exact (hg j hq).1
    · obtain ⟨j, hj, rfl⟩ := List.mem_map.1 ho
      exact (hg j (List.mem_range.1 hj)).2
end
end Go.Proofs.Ytikaaekhghcodaa
