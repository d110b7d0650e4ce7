/- graph: the reference's Values and Graphs, at equals. Arguments that are slices, opened to lists of cells. A graph that comes in, opened. -/
import Derived.Test.YtjphckfbbiehdaaGIdealPlays2
import Derived.Test.YtjphckfbbiehdaaGIdealPlays0
import Derived.Deep.Slices
import Derived.Deep.Fields
import Derived.ChangeSame
import Derived.Test.YtjphckfbbiehdaaGIdealPlays1
set_option linter.unusedSimpArgs false
set_option linter.unusedVariables false
namespace Go.Proofs.Ytjphckfbbiehdaa
open Go.RowKit

set_option maxHeartbeats 800000 in
theorem values_same (w : World) (D D' : Nat → Prop) (A A' : Option Addr) (n c c' : Nat) (xs : List Val) (hn : n ≤ 9223372036854775807)
    (h : Rd w D 2 A n (vals xs)) (h' : Rd w D' 2 A' n (vals xs)) :
    Calls Try.prog 46 #[.slice A n c, .slice A' n c'] w fun e w' => e = .returned (.bool true) ∧ Below w.heap.size w w' := by
  have HL := hide (show xs.length = n by have := h.1; rw [vals_length] at this; omega)
  go_enter Try.func46, Try.ntmps46
  go_wp2_with fail
  go_loopw [5] (fun i wr => ∃ k : Nat, k ≤ n ∧ i = .int .i64 k ∧ Below w.heap.size w wr) (fun i _ => n - (intOf i).toNat)
  case atStart => exact ⟨0, by omega, rfl, Below.refl _ _⟩
  case round =>
    obtain ⟨k, hk, rfl, hB⟩ := hrel
    by_cases hlt : k < n
    · have hkl : k < xs.length := by rw [HL.out]; exact hlt
      obtain ⟨v1, v2⟩ := vals_at xs k hkl
      obtain ⟨ad, hA, _, had, hc, hd⟩ := (h.below hB).atN hlt
      obtain ⟨ad', hA', _, had', hc', hd'⟩ := (h'.below hB).atN hlt
      have e0 := hc _ v1
      have e1 := hc' _ v1
      have d0 := hd 0 _ v2
      have d1 := hd' 0 _ v2
      obtain ⟨⟨b, x⟩, hx⟩ : ∃ x, xs[k] = x := ⟨_, rfl⟩
      rw [hx] at e0 e1 d0 d1
      subst hA hA'
      clear hc hc' hd hd' hx v1 v2
      go_wp2_with fail
      go_quiet (fail)
      go_wp2_with fail
      go_roundw
      case rel => exact ⟨k + 1, by omega, by go_num, below_drewN hB _⟩
      case measure => simp [intOf]; omega
    · go_wp2_with fail
      go_ret
      exact ⟨rfl, hB⟩
set_option maxRecDepth 100000 in
set_option maxHeartbeats 4000000 in
theorem graphs_any (w : World) (D D' : Nat → Prop) (v v' : Value) (fss : List (List Val)) (roots : List Val) (hf : ∀ fs ∈ fss, fs.length ≤ 1000) (hfs : fss.length ≤ 1000) (hr : roots.length ≤ 1000) (h : GraphRd w D v fss roots) (h' : GraphRd w D' v' fss roots) :
    Calls Try.prog 16 #[v, v'] w fun e w' => e = .returned (.bool true) ∧ Below w.heap.size w w' := by
  obtain ⟨A1, n1, c1, A2, n2, c2, obs, rfl, f1, f3, f2⟩ := h.ex
  obtain ⟨B1, m1, d1, B2, m2, d2, obs', rfl, g1, g3, g2⟩ := h'.ex
  have l1 : n1 = fss.length := by rw [← f3, List.length_map]; exact f1.len.symm
  have l2 : m1 = fss.length := by rw [← g3, List.length_map]; exact g1.len.symm
  have k1 : n2 = roots.length := by have := f2.1; rw [vals_length] at this; omega
  have k2 : m2 = roots.length := by have := g2.1; rw [vals_length] at this; omega
  subst k1
  subst l1
  subst l2 k2
  have HF := hide (show ∀ (k : Nat) (hk : k < obs.length) (hk' : k < obs'.length), obs[k].fields = obs'[k].fields ∧ obs[k].fields.length ≤ 1000 by
    intro k hk hk'
    have e : (obs.map Ob.fields)[k]? = (obs'.map Ob.fields)[k]? := by rw [f3, g3]
    rw [List.getElem?_map, List.getElem?_map, List.getElem?_eq_getElem hk, List.getElem?_eq_getElem hk'] at e
    refine ⟨by simpa using e, hf _ ?_⟩
    rw [← f3]
    exact List.mem_map.2 ⟨_, List.getElem_mem hk, rfl⟩)
  have hB0 : Below w.heap.size w ((w.alloc (.cells #[.slice A1 fss.length c1, .slice A2 roots.length c2] 27)).alloc (.cells #[.slice B1 fss.length d1, .slice B2 roots.length d2] 27)) := ((Below.refl _ w).alloc (Nat.le_refl _) _).alloc (by simp) _
  have C1 := hide (values_same _ _ _ A2 B2 roots.length c2 d2 roots (by omega) (f2.below hB0) (g2.below hB0))
  have HB0 := hide hB0
  have b1 := (Blk.new w 27 #[.slice A1 fss.length c1, .slice A2 roots.length c2]).alloc (.cells #[.slice B1 fss.length d1, .slice B2 roots.length d2] 27)
  have b2 := Blk.new (w.alloc (.cells #[.slice A1 fss.length c1, .slice A2 roots.length c2] 27)) 27 #[.slice B1 fss.length d1, .slice B2 roots.length d2]
  rw [World.size_alloc] at b2
  have HB1 := hide b1
  have HB2 := hide b2
  have HL1 := hide f1.len
  have HL2 := hide g1.len
  obtain ⟨N, hN⟩ : ∃ N, fss.length = N := ⟨_, rfl⟩
  rw [hN] at f1 g1 HB1 HB2 HB0 C1 HL1 HL2 hfs ⊢
  clear b1 b2 hB0 f2 g2 f3 g3 h h' hf hN
  go_enter Try.func16, Try.ntmps16
  go_wp2_with fail
  refine C1.out.mono ?_
  rintro e w3 ⟨rfl, hB3⟩
  have hB4 := HB0.out.trans (hB3.mono (by simp; omega))
  have HC1 := hide (HB1.out.below_ hB3)
  have HC2 := hide (HB2.out.below_ hB3)
  have HB4 := hide hB4
  clear C1 HB0 hB3 HB1 HB2 hB4
  go_wp2_with fail
  go_loopw [5] (fun i wr => ∃ k : Nat, k ≤ N ∧ i = .int .i64 k ∧ Below w.heap.size w wr ∧ Blk wr w.heap.size 27 #[.slice A1 N c1, .slice A2 roots.length c2] ∧ Blk wr (w.heap.size + 1) 27 #[.slice B1 N d1, .slice B2 roots.length d2]) (fun i _ => N - (intOf i).toNat)
  case atStart => exact ⟨0, by omega, rfl, HB4.out, HC1.out, HC2.out⟩
  case round =>
    clear HB4 HC1 HC2
    obtain ⟨k, hk, rfl, hB, hG, hG'⟩ := hrel
    obtain ⟨i1, i2, i3⟩ := hG.rules
    obtain ⟨j1, j2, j3⟩ := hG'.rules
    have i4 : wr.cell? ⟨w.heap.size, 0, none⟩ = some (.slice A1 N c1) := by rw [i1]; rfl
    have j4 : wr.cell? ⟨w.heap.size + 1, 0, none⟩ = some (.slice B1 N d1) := by rw [j1]; rfl
    clear i1 j1
    by_cases hlt : k < N
    · have hkl : k < obs.length := by rw [HL1.out]; exact hlt
      have hkl' : k < obs'.length := by rw [HL2.out]; exact hlt
      obtain ⟨ad, hA, _, had, hc⟩ := (f1.below hB).row.at_ hlt
      obtain ⟨ad', hA', _, had', hc'⟩ := (g1.below hB).row.at_ hlt
      have e0 := hc obs[k].val (by simp [List.getElem?_eq_getElem hkl])
      have e1 := hc' obs'[k].val (by simp [List.getElem?_eq_getElem hkl'])
      obtain ⟨hff, hfl⟩ := HF.out k hkl hkl'
      have hE := (f1.below hB).each _ (List.getElem_mem hkl)
      have hE' := (g1.below hB).each _ (List.getElem_mem hkl')
      have hn := f1.flen (List.getElem_mem hkl)
      have hn' := g1.flen (List.getElem_mem hkl')
      obtain ⟨o, ho⟩ : ∃ o, obs[k] = o := ⟨_, rfl⟩
      obtain ⟨o', ho'⟩ : ∃ o, obs'[k] = o := ⟨_, rfl⟩
      rw [ho] at e0 hff hE hn hfl
      rw [ho'] at e1 hff hE' hn'
      rw [← hff] at hE' hn'
      unfold Ob.val at e0 e1
      subst hA hA'
      have hnn : o'.n = o.n := by omega
      rw [hnn] at e1 hE'
      have HE := hide hE
      have HE' := hide hE'
      have hno : o.n ≤ 1000 := by omega
      have HNO := hide hno
      clear hc hc' ho ho' hff hn hn' hnn hfl hE hE' hno
      go_wp2_with fail
      have HBW := hide hB
      have HGW := hide hG
      have HGW' := hide hG'
      go_region_law (first
        | (try go_simp
           go_at_call 46
           refine (values_same wr.drew _ _ o.A o'.A o.n o.c o'.c o.fields (by have := HNO.out; omega) (HE.out.keep (Nat.le_refl _) (fun _ _ _ => rfl)) (HE'.out.keep (Nat.le_refl _) (fun _ _ _ => rfl))).mono ?_
           rintro e w4 ⟨rfl, hB4⟩))
      all_goals
        go_wp2_with fail
        go_roundw
        case rel => exact ⟨k + 1, by omega, by go_num, (HBW.out.drew.trans (hB4.mono HBW.out.size)), HGW.out.drew.below_ hB4, HGW'.out.drew.below_ hB4⟩
        case measure => simp [intOf]; omega
    · go_wp2_with fail
      go_ret
      exact ⟨rfl, hB⟩
end Go.Proofs.Ytjphckfbbiehdaa

namespace Go.Proofs.Ytjphckfbbiehdaa
open Go.ChangeShapes Go.WideShapes Go.Deep Go.RowKit

theorem block_lt_ {w : World} {a : Addr} {v : Value} (h : w.cell? a = some v) : a.block < w.heap.size := by
  unfold World.cell? at h
  split at h
  · rename_i hb; exact (Array.getElem?_eq_some_iff.1 hb).1
  · cases h
theorem triples_length (l : List (Int × Int × Int)) : (l.flatMap fun d => [Value.int .i64 d.1, .int .i64 d.2.1, .int .i64 d.2.2]).length = l.length * 3 := by
  induction l with
  | nil => rfl
  | cons a l ih => rw [List.flatMap_cons, List.length_append, ih]; simp; omega
theorem triples_at (l : List (Int × Int × Int)) (q r : Nat) (hr : r < 3) : (l.flatMap fun d => [Value.int .i64 d.1, .int .i64 d.2.1, .int .i64 d.2.2])[q * 3 + r]? = (l[q]?).bind fun d => [Value.int .i64 d.1, .int .i64 d.2.1, .int .i64 d.2.2][r]? := by
  induction l generalizing q with
  | nil => rfl
  | cons a l ih =>
    rw [List.flatMap_cons]
    cases q with
    | zero => rw [List.getElem?_append_left (by simp; omega)]; simp
    | succ q => rw [List.getElem?_append_right (by simp; omega), show (q + 1) * 3 + r - [Value.int .i64 a.1, .int .i64 a.2.1, .int .i64 a.2.2].length = q * 3 + r by simp; omega, ih]; rfl

/-- A slice of structs of three ints. -/
theorem open_deeds {H : Type} {enc : TypeId × Value → H} {P : Program} {w : World} {base : Nat} {spare : Nat → Bool} {held : Bool} {t e : TypeId} {v : Value} {d : DataW H} {p : List MemPlace} {fs : Array Field}
    (ht : P.underlying t = some (.slice e)) (he : P.underlying e = some (.struct fs)) (hone : oneCellFields P fs = true) (hC : P.cellsOf e = 3) (hf : fs.size = 3)
    (hi : ∀ (j : Nat) (f : Field), fs[j]? = some f → P.underlying f.type = some (.int .i64)) {r : Reach} {bb : Nat} (hv : Value.okWide P w r bb t v) (h : DataW.Trod enc P w base spare held t v d p) :
    ∃ (A : Option Addr) (n c : Nat) (l : List (Int × Int × Int)), v = .slice A n c ∧ n ≤ 9223372036854775807 ∧ n ≤ c ∧ c ≤ 9223372036854775807 ∧ l.length = n ∧
      Rd w (fun _ => True) 3 A n (l.flatMap fun d => [.int .i64 d.1, .int .i64 d.2.1, .int .i64 d.2.2]) := by
  obtain ⟨A, n, c, rfl⟩ := okWide_slice ht hv
  obtain ⟨fuel, h⟩ := h
  rcases open_slice ht h with ⟨h0, _⟩ | ⟨a, len, cap, m, n0, D, Pl, hcs, _, hl, hm, hmm, _, hx⟩
  · simp [Value.cells] at h0
    obtain ⟨rfl, rfl, rfl⟩ := h0
    exact ⟨none, 0, 0, [], rfl, by omega, by omega, by omega, rfl, Rd.nil⟩
  · simp [Value.cells] at hcs
    obtain ⟨rfl, rfl, rfl⟩ := hcs
    have hle : n ≤ m := by rw [hmm]; split <;> omega
    have hmx : c ≤ 9223372036854775807 := by simpa [maxLen] using hm
    have key : ∀ i, i < n → ∃ x : Int × Int × Int, w.cell? (a.add (i * 3)) = some (.int .i64 x.1) ∧ w.cell? (a.add (i * 3 + 1)) = some (.int .i64 x.2.1) ∧ w.cell? (a.add (i * 3 + 2)) = some (.int .i64 x.2.2) := by
      intro i hi'
      obtain ⟨cs', h1, h2⟩ := hx i (by omega)
      rw [hC] at h1
      obtain ⟨_, hcl, hat⟩ := World.cells?_some h1
      obtain ⟨ys, n', _, _, _, hyl, hj⟩ := DataW.trod_struct he h2
      have one : ∀ j, j < 3 → ∃ k : Int, w.cell? (a.add (i * 3 + j)) = some (.int .i64 k) := by
        intro j hj3
        have hfj : fs[j]? = some (fs[j]'(by omega)) := Array.getElem?_eq_getElem (by omega)
        obtain ⟨ho, hk⟩ := hone_of hone j _ hfj
        have h3 := hj j _ hfj
        rw [ho, hk, List.getElem?_eq_getElem (by omega)] at h3
        obtain ⟨k, e0, _, _⟩ := DataW.trod_int (hi j _ hfj) h3
        refine ⟨k, ?_⟩
        rw [← add_of_add, hat j (by omega)]
        have e1 := congrArg (fun l => l[0]?) e0
        simpa [List.getElem?_take, List.getElem?_drop] using e1
      obtain ⟨x, hx0⟩ := one 0 (by omega)
      obtain ⟨y, hx1⟩ := one 1 (by omega)
      obtain ⟨z, hx2⟩ := one 2 (by omega)
      exact ⟨(x, y, z), hx0, hx1, hx2⟩
    obtain ⟨f, hf'⟩ := choose_lt key
    refine ⟨some a, n, c, (List.range n).map f, rfl, by omega, hl, hmx, by simp, ?_, ?_⟩
    · rw [triples_length]; simp
    · intro hn
      refine ⟨a, rfl, trivial, ?_, ?_⟩
      · have := block_lt_ (hf' 0 hn).1
        simpa [block_of_add] using this
      · intro j u hu
        obtain ⟨q, r, hr, rfl⟩ : ∃ q r, r < 3 ∧ j = q * 3 + r := ⟨j / 3, j % 3, Nat.mod_lt _ (by omega), by omega⟩
        rw [triples_at _ _ _ hr] at hu
        simp only [List.getElem?_map] at hu
        rcases Nat.lt_or_ge q n with hq | hq
        case inr => rw [List.getElem?_eq_none (by simp; omega)] at hu; cases hu
        rw [List.getElem?_range hq] at hu
        simp only [Option.map_some, Option.bind_some] at hu
        obtain ⟨g0, g1, g2⟩ := hf' q hq
        rcases (show r = 0 ∨ r = 1 ∨ r = 2 by omega) with rfl | rfl | rfl
        · simp at hu; subst hu; simpa [add_of_add] using g0
        · simp at hu; subst hu; simpa [add_of_add] using g1
        · simp at hu; subst hu; simpa [add_of_add] using g2
end Go.Proofs.Ytjphckfbbiehdaa

namespace Go.Proofs.Ytjphckfbbiehdaa
open Go.ChangeShapes Go.WideShapes Go.Deep Go.RowKit

theorem vals_at_ (l : List Val) (q r : Nat) (hr : r < 2) : (vals l)[q * 2 + r]? = (l[q]?).bind fun d => [Value.bool d.1, .int .i64 d.2][r]? := by
  unfold vals
  induction l generalizing q with
  | nil => rfl
  | cons a l ih =>
    rw [List.flatMap_cons]
    cases q with
    | zero => rw [List.getElem?_append_left (by simp; omega)]; simp
    | succ q => rw [List.getElem?_append_right (by simp; omega), show (q + 1) * 2 + r - [Value.bool a.1, .int .i64 a.2].length = q * 2 + r by simp; omega, ih]; rfl

section
variable {H : Type} {enc : TypeId × Value → H} {P : Program} {w : World} {base : Nat} {spare : Nat → Bool} {held : Bool}
/-- A slice of structs of a bool and an int. -/
theorem trod_vals {t e : TypeId} {f0 f1 : Field} {fuel : Nat} {cs : List Value} {x : DataW H × List MemPlace} (ht : P.underlying t = some (.slice e)) (he : P.underlying e = some (.struct #[f0, f1])) (hone : oneCellFields P #[f0, f1] = true) (hC : P.cellsOf e = 2)
    (i0 : P.underlying f0.type = some .bool) (i1 : P.underlying f1.type = some (.int .i64)) (h : DataW.trod enc P w base spare held fuel t cs = some x) :
    ∃ (A : Option Addr) (n c : Nat) (l : List Val), cs = [.slice A n c] ∧ n ≤ 9223372036854775807 ∧ Rd w (fun _ => True) 2 A n (vals l) := by
  rcases open_slice ht h with ⟨h0, _⟩ | ⟨a, n, c, m, n0, D, Pl, rfl, _, hl, hm, hmm, _, hx⟩
  · exact ⟨none, 0, 0, [], h0, by omega, Rd.nil⟩
  · have hle : n ≤ m := by rw [hmm]; split <;> omega
    have hmx : c ≤ 9223372036854775807 := by simpa [maxLen] using hm
    have key : ∀ i, i < n → ∃ x : Val, w.cell? (a.add (i * 2)) = some (.bool x.1) ∧ w.cell? (a.add (i * 2 + 1)) = some (.int .i64 x.2) := by
      intro i hi'
      obtain ⟨cs', h1, h2⟩ := hx i (by omega)
      rw [hC] at h1
      obtain ⟨_, hcl, hat⟩ := World.cells?_some h1
      obtain ⟨y0, y1, n', _, _, hj0, hj1⟩ := trod_struct2 he h2
      obtain ⟨o0, k0⟩ := hone_of hone 0 f0 rfl
      obtain ⟨o1, k1⟩ := hone_of hone 1 f1 rfl
      rw [o0, k0] at hj0
      rw [o1, k1] at hj1
      obtain ⟨b, e0, _⟩ := DataW.trod_bool i0 hj0
      obtain ⟨k, e1, _, _⟩ := DataW.trod_int i1 hj1
      refine ⟨(b, k), ?_, ?_⟩
      · have h3 := hat 0 (by omega)
        have e2 := congrArg (fun l => l[0]?) e0
        have e3 : cs'[0]? = some (.bool b) := by simpa [List.getElem?_take, List.getElem?_drop] using e2
        rw [← e3, ← h3, add_of_add, Nat.add_zero]
      · have h3 := hat 1 (by omega)
        have e2 := congrArg (fun l => l[0]?) e1
        have e3 : cs'[1]? = some (.int .i64 k) := by simpa [List.getElem?_take, List.getElem?_drop] using e2
        rw [← e3, ← h3, add_of_add]
    obtain ⟨f, hf'⟩ := choose_lt key
    refine ⟨some a, n, c, (List.range n).map f, rfl, by omega, ?_, ?_⟩
    · rw [vals_length]; simp
    · intro hn
      refine ⟨a, rfl, trivial, ?_, ?_⟩
      · have := block_lt_ (hf' 0 hn).1
        simpa [block_of_add] using this
      · intro j u hu
        obtain ⟨q, r, hr, rfl⟩ : ∃ q r, r < 2 ∧ j = q * 2 + r := ⟨j / 2, j % 2, Nat.mod_lt _ (by omega), by omega⟩
        rw [vals_at_ _ _ _ hr] at hu
        simp only [List.getElem?_map] at hu
        rcases Nat.lt_or_ge q n with hq | hq
        case inr => rw [List.getElem?_eq_none (by simp; omega)] at hu; cases hu
        rw [List.getElem?_range hq] at hu
        simp only [Option.map_some, Option.bind_some] at hu
        obtain ⟨g0, g1⟩ := hf' q hq
        rcases (show r = 0 ∨ r = 1 by omega) with rfl | rfl
        · simp at hu; subst hu; simpa using g0
        · simp at hu; subst hu; exact g1

/-- A slice of structs of one such slice. -/
theorem trod_objs {t e tf te : TypeId} {f f0 f1 : Field} {fuel : Nat} {cs : List Value} {x : DataW H × List MemPlace} (ht : P.underlying t = some (.slice e)) (he : P.underlying e = some (.struct #[f])) (hone1 : oneCellFields P #[f] = true) (hC1 : P.cellsOf e = 1) (hft : f.type = tf)
    (htf : P.underlying tf = some (.slice te)) (hte : P.underlying te = some (.struct #[f0, f1])) (hone : oneCellFields P #[f0, f1] = true) (hC : P.cellsOf te = 2)
    (i0 : P.underlying f0.type = some .bool) (i1 : P.underlying f1.type = some (.int .i64)) (h : DataW.trod enc P w base spare held fuel t cs = some x) :
    ∃ (A : Option Addr) (n c : Nat) (l : List Ob), cs = [.slice A n c] ∧ n ≤ 9223372036854775807 ∧ ObsRd w (fun _ => True) A n l := by
  rcases open_slice1 ht hC1 h with ⟨h0, _⟩ | ⟨a, n, c, m, n0, V, D, Pl, rfl, _, hl, hm, hmm, _, hx⟩
  · exact ⟨none, 0, 0, [], h0, by omega, ⟨Rd.nil, fun o ho => by cases ho⟩⟩
  · have hle : n ≤ m := by rw [hmm]; split <;> omega
    have hmx : c ≤ 9223372036854775807 := by simpa [maxLen] using hm
    have key : ∀ i, i < n → ∃ o : Ob, w.cell? (a.add i) = some o.val ∧ Rd w (fun _ => True) 2 o.A o.n (vals o.fields) := by
      intro i hi'
      obtain ⟨h1, h2⟩ := hx i (by omega)
      obtain ⟨y0, n', _, _, hj0⟩ := trod_struct1 he h2
      obtain ⟨o0, k0⟩ := hone_of hone1 0 f rfl
      rw [o0, k0, hft] at hj0
      obtain ⟨A', n1, c1, l1, e1, _, hr⟩ := trod_vals htf hte hone hC i0 i1 hj0
      refine ⟨⟨A', n1, c1, l1⟩, ?_, hr⟩
      have e2 := congrArg (fun l => l[0]?) e1
      have e3 : V i = .slice A' n1 c1 := by simpa using e2
      rw [h1, e3]; rfl
    haveI : Inhabited Ob := ⟨⟨none, 0, 0, []⟩⟩
    obtain ⟨g, hg⟩ := choose_lt key
    refine ⟨some a, n, c, (List.range n).map g, rfl, by omega, ⟨⟨by simp, fun hn => ⟨a, rfl, trivial, ?_, ?_⟩⟩, fun o ho => ?_⟩⟩
    · have := block_lt_ (hg 0 hn).1
      simpa [block_of_add] using this
    · intro j u hu
      simp only [List.getElem?_map] at hu
      rcases Nat.lt_or_ge j n with hq | hq
      case inr => rw [List.getElem?_eq_none (by simp; omega)] at hu; cases hu
      rw [List.getElem?_range hq] at hu
      simp at hu
      subst hu
      exact (hg j hq).1
    · obtain ⟨j, hj, rfl⟩ := List.mem_map.1 ho
      exact (hg j (List.mem_range.1 hj)).2
end
end Go.Proofs.Ytjphckfbbiehdaa
