/- Arguments that are slices, opened to lists of cells. A graph that comes in, opened. A graph that comes in, opened; its objects' fields lie in slices that are no longer than their room. The walk of the law on a memory that is copied. A script that comes in: a slice of structs of five numbers. -/
import Derived.Test.YtjphckfbbiehdaaSReplicaPlays0
import Derived.Deep.Slices
import Derived.Deep.Fields
import Derived.ChangeSame
import Derived.Test.YtjphckfbbiehdaaSReplicaPlays2
import Derived.Test.YtjphckfbbiehdaaSReplicaPlays34
import Derived.Test.YtjphckfbbiehdaaSReplicaPlays35
import Derived.Test.YtjphckfbbiehdaaSReplicaPlays38
import Derived.Test.YtjphckfbbiehdaaSReplicaPlays13
set_option linter.unusedSimpArgs false
set_option linter.unusedVariables false
namespace Go.Proofs.Ytjphckfbbiehdaa
open Go.ChangeShapes Go.WideShapes Go.Deep Go.RowKit
theorem block_lt_ {w : World} {a : Addr} {v : Value} (h : w.cell? a = some v) : a.block < w.heap.size := by
  unfold World.cell? at h
  split at h
  · rename_i hb; exact (Array.getElem?_eq_some_iff.1 hb).1
  · cases h
end Go.Proofs.Ytjphckfbbiehdaa

namespace Go.Proofs.Ytjphckfbbiehdaa
open Go.ChangeShapes Go.WideShapes Go.Deep Go.RowKit
theorem vals_at_ (l : List Val) (q r : Nat) (hr : r < 2) : (vals l)[q * 2 + r]? = (l[q]?).bind fun d => [Value.bool d.1, .int .i64 d.2][r]? := by
  unfold vals
  induction l generalizing q with
  | nil => rfl
  | cons a l ih =>
    rw [List.flatMap_cons]
    cases q with
    | zero => rw [List.getElem?_append_left (by simp; omega)]; simp
    | succ q => rw [List.getElem?_append_right (by simp; omega), show (q + 1) * 2 + r - [Value.bool a.1, .int .i64 a.2].length = q * 2 + r by simp; omega, ih]; rfl
section
variable {H : Type} {enc : TypeId × Value → H} {P : Program} {w : World} {base : Nat} {spare : Nat → Bool} {held : Bool}
/-- A slice of structs of a bool and an int. -/
theorem trod_vals {t e : TypeId} {f0 f1 : Field} {fuel : Nat} {cs : List Value} {x : DataW H × List MemPlace} (ht : P.underlying t = some (.slice e)) (he : P.underlying e = some (.struct #[f0, f1])) (hone : oneCellFields P #[f0, f1] = true) (hC : P.cellsOf e = 2)
    (i0 : P.underlying f0.type = some .bool) (i1 : P.underlying f1.type = some (.int .i64)) (h : DataW.trod enc P w base spare held fuel t cs = some x) :
    ∃ (A : Option Addr) (n c : Nat) (l : List Val), cs = [.slice A n c] ∧ n ≤ 9223372036854775807 ∧ Rd w (fun _ => True) 2 A n (vals l) := by
  rcases open_slice ht h with ⟨h0, _⟩ | ⟨a, n, c, m, n0, D, Pl, rfl, _, hl, hm, hmm, _, hx⟩
  · exact ⟨none, 0, 0, [], h0, by omega, Rd.nil⟩
  · have hle : n ≤ m := by rw [hmm]; split <;> omega
    have hmx : c ≤ 9223372036854775807 := by simpa [maxLen] using hm
    have key : ∀ i, i < n → ∃ x : Val, w.cell? (a.add (i * 2)) = some (.bool x.1) ∧ w.cell? (a.add (i * 2 + 1)) = some (.int .i64 x.2) := by
      intro i hi'
      obtain ⟨cs', h1, h2⟩ := hx i (by omega)
      rw [hC] at h1
      obtain ⟨_, hcl, hat⟩ := World.cells?_some h1
      obtain ⟨y0, y1, n', _, _, hj0, hj1⟩ := trod_struct2 he h2
      obtain ⟨o0, k0⟩ := hone_of hone 0 f0 rfl
      obtain ⟨o1, k1⟩ := hone_of hone 1 f1 rfl
      rw [o0, k0] at hj0
      rw [o1, k1] at hj1
      obtain ⟨b, e0, _⟩ := DataW.trod_bool i0 hj0
      obtain ⟨k, e1, _, _⟩ := DataW.trod_int i1 hj1
      refine ⟨(b, k), ?_, ?_⟩
      · have h3 := hat 0 (by omega)
        have e2 := congrArg (fun l => l[0]?) e0
        have e3 : cs'[0]? = some (.bool b) := by simpa [List.getElem?_take, List.getElem?_drop] using e2
        rw [← e3, ← h3, add_of_add, Nat.add_zero]
      · have h3 := hat 1 (by omega)
        have e2 := congrArg (fun l => l[0]?) e1
        have e3 : cs'[1]? = some (.int .i64 k) := by simpa [List.getElem?_take, List.getElem?_drop] using e2
        rw [← e3, ← h3, add_of_add]
    obtain ⟨f, hf'⟩ := choose_lt key
    refine ⟨some a, n, c, (List.range n).map f, rfl, by omega, ?_, ?_⟩
    · rw [vals_length]; simp
    · intro hn
      refine ⟨a, rfl, trivial, ?_, ?_⟩
      · have := block_lt_ (hf' 0 hn).1
        simpa [block_of_add] using this
      · intro j u hu
        obtain ⟨q, r, hr, rfl⟩ : ∃ q r, r < 2 ∧ j = q * 2 + r := ⟨j / 2, j % 2, Nat.mod_lt _ (by omega), by omega⟩
        rw [vals_at_ _ _ _ hr] at hu
        simp only [List.getElem?_map] at hu
        rcases Nat.lt_or_ge q n with hq | hq
        case inr => rw [List.getElem?_eq_none (by simp; omega)] at hu; cases hu
        rw [List.getElem?_range hq] at hu
        simp only [Option.map_some, Option.bind_some] at hu
        obtain ⟨g0, g1⟩ := hf' q hq
        rcases (show r = 0 ∨ r = 1 by omega) with rfl | rfl
        · simp at hu; subst hu; simpa using g0
        · simp at hu; subst hu; exact g1
end
end Go.Proofs.Ytjphckfbbiehdaa

namespace Go.Proofs.Ytjphckfbbiehdaa
open Go.ChangeShapes Go.WideShapes Go.Deep Go.RowKit
def Caps (obs : List Ob) : Prop := ∀ o ∈ obs, o.n ≤ o.c ∧ (o.A = none → o.c = 0)
section
variable {H : Type} {enc : TypeId × Value → H} {P : Program} {w : World} {base : Nat} {spare : Nat → Bool} {held : Bool}
theorem trod_valsC {t e : TypeId} {f0 f1 : Field} {fuel : Nat} {cs : List Value} {x : DataW H × List MemPlace} (ht : P.underlying t = some (.slice e)) (he : P.underlying e = some (.struct #[f0, f1])) (hone : oneCellFields P #[f0, f1] = true) (hC : P.cellsOf e = 2)
    (i0 : P.underlying f0.type = some .bool) (i1 : P.underlying f1.type = some (.int .i64)) (h : DataW.trod enc P w base spare held fuel t cs = some x) :
    ∃ (A : Option Addr) (n c : Nat) (l : List Val), cs = [.slice A n c] ∧ (n ≤ c ∧ (A = none → c = 0)) ∧ Rd w (fun _ => True) 2 A n (vals l) := by
  obtain ⟨A, n, c, l, e1, _, hr⟩ := trod_vals ht he hone hC i0 i1 h
  refine ⟨A, n, c, l, e1, ?_, hr⟩
  rcases open_slice ht h with ⟨h0, _⟩ | ⟨a, n', c', m, n0, D, Pl, h0, _, hl, hm, hmm, _, hx⟩
  · rw [e1] at h0
    simp at h0
    exact ⟨by omega, fun _ => h0.2.2⟩
  · rw [e1] at h0
    simp at h0
    exact ⟨by omega, fun h => by rw [h] at h0; simp at h0⟩
theorem trod_objsC {t e tf te : TypeId} {f f0 f1 : Field} {fuel : Nat} {cs : List Value} {x : DataW H × List MemPlace} (ht : P.underlying t = some (.slice e)) (he : P.underlying e = some (.struct #[f])) (hone1 : oneCellFields P #[f] = true) (hC1 : P.cellsOf e = 1) (hft : f.type = tf)
    (htf : P.underlying tf = some (.slice te)) (hte : P.underlying te = some (.struct #[f0, f1])) (hone : oneCellFields P #[f0, f1] = true) (hC : P.cellsOf te = 2)
    (i0 : P.underlying f0.type = some .bool) (i1 : P.underlying f1.type = some (.int .i64)) (h : DataW.trod enc P w base spare held fuel t cs = some x) :
    ∃ (A : Option Addr) (n c : Nat) (l : List Ob), cs = [.slice A n c] ∧ n ≤ 9223372036854775807 ∧ ObsRd w (fun _ => True) A n l ∧ Caps l := by
  rcases open_slice1 ht hC1 h with ⟨h0, _⟩ | ⟨a, n, c, m, n0, V, D, Pl, rfl, _, hl, hm, hmm, _, hx⟩
  · exact ⟨none, 0, 0, [], h0, by omega, ⟨Rd.nil, fun o ho => by cases ho⟩, fun o ho => by cases ho⟩
  · have hle : n ≤ m := by rw [hmm]; split <;> omega
    have hmx : c ≤ 9223372036854775807 := by simpa [maxLen] using hm
    have key : ∀ i, i < n → ∃ o : Ob, w.cell? (a.add i) = some o.val ∧ Rd w (fun _ => True) 2 o.A o.n (vals o.fields) ∧ (o.n ≤ o.c ∧ (o.A = none → o.c = 0)) := by
      intro i hi'
      obtain ⟨h1, h2⟩ := hx i (by omega)
      obtain ⟨y0, n', _, _, hj0⟩ := trod_struct1 he h2
      obtain ⟨o0, k0⟩ := hone_of hone1 0 f rfl
      rw [o0, k0, hft] at hj0
      obtain ⟨A', n1, c1, l1, e1, hnc, hr⟩ := trod_valsC htf hte hone hC i0 i1 hj0
      refine ⟨⟨A', n1, c1, l1⟩, ?_, hr, hnc⟩
      have e2 := congrArg (fun l => l[0]?) e1
      have e3 : V i = .slice A' n1 c1 := by simpa using e2
      rw [h1, e3]; rfl
    haveI : Inhabited Ob := ⟨⟨none, 0, 0, []⟩⟩
    obtain ⟨g, hg⟩ := choose_lt key
    refine ⟨some a, n, c, (List.range n).map g, rfl, by omega, ⟨⟨by simp, fun hn => ⟨a, rfl, trivial, ?_, ?_⟩⟩, fun o ho => ?_⟩, fun o ho => ?_⟩
    · have := block_lt_ (hg 0 hn).1
      simpa [block_of_add] using this
    · intro j u hu
      simp only [List.getElem?_map] at hu
      rcases Nat.lt_or_ge j n with hq | hq
      case inr => rw [List.getElem?_eq_none (by simp; omega)] at hu; cases hu
      rw [List.getElem?_range hq] at hu
      simp at hu
      subst hu
      exact (hg j hq).1
    · obtain ⟨j, hj, rfl⟩ := List.mem_map.1 ho
      exact (hg j (List.mem_range.1 hj)).2.1
    · obtain ⟨j, hj, rfl⟩ := List.mem_map.1 ho
      exact (hg j (List.mem_range.1 hj)).2.2
end
end Go.Proofs.Ytjphckfbbiehdaa

namespace Go.Proofs.Ytjphckfbbiehdaa
open Go.RowKit
theorem gcheck_num {nO nR : Nat} {obs : List Ob} {roots : List Val} (h : gcheck nO nR obs roots = 0) : ∀ v ∈ allVals obs roots, intOk v := by
  unfold gcheck at h
  split at h
  · omega
  split at h
  · omega
  split at h
  · omega
  rename_i h3
  intro v hv hb
  have h5 : (allVals obs roots).any badRange = false := by
    cases h6 : (allVals obs roots).any badRange with
    | false => rfl
    | true => exact absurd h6 h3
  have h6 := List.any_eq_false.1 h5 v hv
  unfold badRange at h6
  rw [hb] at h6
  simp at h6
  exact ⟨by omega, by omega⟩
theorem rangeI_nodup (n : Nat) : (rangeI n).Nodup := List.pairwise_map.2 (List.nodup_range.imp fun h e => h (by omega))
theorem rp_law {ds : List DoV} {σ : MSt} (hM : MOk σ) (hn : σ.objs.length ≤ 24) (hd : ds.length ≤ 100) : (rpRun ds (rp0 σ)).1 = (rqRun ds (rq0 σ)).1 ∧ (rpRun ds (rp0 σ)).2.row = (rqRun ds (rq0 σ)).2.row ∧ (rpRun ds (rp0 σ)).2.cps.length = (rqRun ds (rq0 σ)).2.made.length ∧ (rpRun ds (rp0 σ)).2.log.length = (rqRun ds (rq0 σ)).2.log.length ∧ (rpRun ds (rp0 σ)).2.times = (rqRun ds (rq0 σ)).2.times ∧ (rqRun ds (rq0 σ)).1.length = ds.length ∧ (rqRun ds (rq0 σ)).2.row.length ≤ 24 ∧ ∀ k, k ≤ ds.length → RqOk (rqRun (ds.take k) (rq0 σ)).2 := by
  obtain ⟨h0, s0⟩ := rp0_ok hM hn
  have key := fun k hk => rp_run ds s0 h0 k hk
  have e0 : (rp0 σ).objs.length = σ.objs.length := List.length_map ..
  refine ⟨?_, ?_, ?_, ?_, ?_, ?_, ?_, fun k hk => ?_⟩
  all_goals
    have h1 := key ds.length (Nat.le_refl _)
    rw [List.take_length] at h1
  · exact h1.1
  · exact h1.2.1.row
  · have h2 := congrArg List.length h1.2.1.md
    rw [← h2]
    unfold RpA.made keysC
    rw [List.length_map, List.length_map]
  · rw [h1.2.1.lg]
  · exact h1.2.1.tm
  · rw [← h1.1]; exact h1.2.2.2.2.1
  · rw [← h1.2.1.row]; exact h1.2.2.1.r24
  · obtain ⟨_, h2, h3, h4, _, h5, h6⟩ := key k hk
    exact rsim_ok h2 h3 (by rw [e0] at h4; omega) (by have : (rp0 σ).log.length = 0 := rfl; omega) (by have : (rp0 σ).times = 0 := rfl; omega)
set_option maxRecDepth 100000 in
set_option maxHeartbeats 16000000 in
theorem repPlays_ok (w : World) (AO AR Ad : Option Addr) (nO cO nR cR nd cd : Nat) (obs : List Ob) (roots : List Val) (ds : List DoV) (hcp : ∀ o ∈ obs, o.A = none → o.c = 0) (hO : ObsRd w (fun _ => True) AO nO obs) (hR : Rd w (fun _ => True) 2 AR nR (vals roots)) (hD : Rd w (fun _ => True) 5 Ad nd (dosV ds)) (hz : repErr nO nR nd obs roots = 0) :
    Calls Try.prog 11 #[.agg #[.slice AO nO cO, .slice AR nR cR], .slice Ad nd cd] w fun e w' => e = .returned (.bool true) ∧ Below w.heap.size w w' := by
  obtain ⟨hx, hnd⟩ : gcheck nO nR obs roots = 0 ∧ nd ≤ 100 := by
    unfold repErr at hz
    split at hz
    · rename_i h; exact absurd hz h
    · rename_i h
      split at hz
      · omega
      · exact ⟨by omega, by omega⟩
  have hG := gok_of hO hx
  obtain ⟨gs, hgs⟩ : ∃ gs, obs.map Ob.fields = gs := ⟨_, rfl⟩
  have hM : MOk ⟨padR roots nR, gs⟩ := by
    have h1 := hG.vg
    have h2 := hG.vr
    have h3 := hG.fs
    rw [hgs] at h1 h2 h3
    exact ⟨padR_len roots nR (by have := roots_len hR; omega) hG.nR_, padR_ok h2 nR, h1, h3⟩
  have hgl : gs.length = nO := by rw [← hgs, hG.len]
  have hNm : RpNm (rp0 ⟨padR roots nR, gs⟩) := by
    have h1 := gcheck_num hx
    refine ⟨fun v hv => ?_, fun i fs hf v hv => ?_, rangeI_nodup _⟩
    · rcases List.mem_append.1 (show v ∈ roots.take nR ++ List.replicate (8 - nR) (false, 0) from hv) with h2 | h2
      · exact h1 v (List.mem_append_left _ (List.mem_of_mem_take h2))
      · rw [(List.mem_replicate.1 h2).2]
        intro _
        exact ⟨by decide, by decide⟩
    · have h2 := List.mem_of_getElem? ((rp0_fld _ i fs).1 hf)
      rw [← hgs] at h2
      obtain ⟨o, ho, rfl⟩ := List.mem_map.1 h2
      exact h1 v (List.mem_append_right _ (List.mem_flatMap.2 ⟨o, ho, hv⟩))
  have hdl : ds.length = nd := by have h := hD.1; rw [dosV_length] at h; omega
  obtain ⟨g, hg⟩ : ∃ g, w.heap.size = g := ⟨_, rfl⟩
  have hS0 := (Sep.nil No w).blkAt 27 #[.slice AO nO cO, .slice AR nR cR] hg
  obtain ⟨a1, a2, a3, a4⟩ := hS0.rules 0 (g := g) (t := 27) rfl
  have a5 := (a1 0).trans (show _ = some (.slice AO nO cO) from rfl)
  have a6 := (a1 1).trans (show _ = some (.slice AR nR cR) from rfl)
  have C1 := hide (repPlay_ok _ AO AR Ad nO cO nR cR nd cd obs roots gs ds hgs (hO.below hS0.below_) (hR.below hS0.below_) hcp hz hM hNm (hD.below hS0.below_))
  have C4 := hide (fun w' (hb : Below w.heap.size w w') => refCheck_any w' AO AR nO cO nR cR obs roots (hO.below hb) (hR.below hb))
  simp only [hx] at C4
  obtain ⟨o1, o2, o3, o4, o5, o6, o7, o8⟩ := rp_law (ds := ds) hM (by show gs.length ≤ 24; have := hG.nO_; omega) (by omega)
  have C5 := hide (fun w' (hb : Below w.heap.size w w') => refReplicated_any w' AO AR Ad nO cO nR cR nd cd obs roots gs ds hgs (hO.below hb) (hR.below hb) hG.nO_ hG.nR_ hG.fl o8 (hD.below hb) hnd)
  simp only [o1, o2, o3, o4, o5] at C1
  obtain ⟨R, hRn⟩ : ∃ r, rqRun ds (rq0 ⟨padR roots nR, gs⟩) = r := ⟨_, rfl⟩
  rw [hRn] at o6 o7
  simp only [hRn] at C1 C5
  obtain ⟨os, hos⟩ : ∃ l, R.1 = l := ⟨_, rfl⟩
  obtain ⟨ts, hts⟩ : ∃ l, R.2.row = l := ⟨_, rfl⟩
  obtain ⟨ml, hml⟩ : ∃ l, R.2.made.length = l := ⟨_, rfl⟩
  obtain ⟨ll, hll⟩ : ∃ l, R.2.log.length = l := ⟨_, rfl⟩
  obtain ⟨tm, htm⟩ : ∃ l, R.2.times = l := ⟨_, rfl⟩
  rw [hos] at o6
  rw [hts] at o7
  simp only [hos, hts, hml, hll, htm] at C1 C5
  have HTL := hide o7
  have C6 := hide (fun (X : World) (A1 A2 : Option Addr) (c1 c2 : Nat) (h1 : Rd X (fun _ => True) 3 A1 nd (outsV os)) (h2 : Rd X (fun _ => True) 3 A2 nd (outsV os)) => outs_any X A1 A2 nd c1 c2 os (by omega) h1 h2)
  have C8 := hide (fun (X : World) (A1 A2 : Option Addr) (n c1 c2 : Nat) (hn : n ≤ 9223372036854775807) (h1 : Rd X (fun _ => True) 1 A1 n (ints ts)) (h2 : Rd X (fun _ => True) 1 A2 n (ints ts)) => ints_same X (fun _ => True) (fun _ => True) A1 A2 n c1 c2 ts hn h1 h2)
  have HS0 := hide hS0
  have t3 : decide ((100 : Int) < (nd : Int)) = false := by simp; omega
  have t4 : decide (100 < nd) = false := by simp; omega
  clear hS0 a4 a1 hO hR hz hx hG hM hD hgs o1 o2 o3 o4 o5 o6 o7 o8 hRn hos hts hml hll htm hcp hgl hdl hNm
  go_enter Try.func11, Try.ntmps11
  go_wp2_with fail
  refine C1.out.mono ?_
  rintro e w1 ⟨A1, c1, A2, n2, c2, rfl, hb1, hr1, hr2⟩
  have hn2 : n2 = ts.length := by have h := hr2.1; simp at h; omega
  have HTN := hide hn2.symm
  rw [← hn2] at HTL
  clear hn2
  obtain ⟨g1, hg1⟩ : ∃ g, w1.heap.size = g := ⟨_, rfl⟩
  have hS1 := (HS0.out.below hb1).blkAt 85 #[.slice A1 nd c1, .slice A2 n2 c2, .int .i64 (ml : Int), .int .i64 (ll : Int), .int .i64 (tm : Int)] hg1
  have hW : Below w1.heap.size w1 (w1.alloc (.cells #[.slice A1 nd c1, .slice A2 n2 c2, .int .i64 (ml : Int), .int .i64 (ll : Int), .int .i64 (tm : Int)] 85)) := (Below.refl _ w1).alloc (Nat.le_refl _) _
  have HR1 := hide ((hr1.more (D' := fun k => k < g1) (fun k hk _ => by omega)).below hW)
  have HR2 := hide ((hr2.more (D' := fun k => k < g1) (fun k hk _ => by omega)).below hW)
  obtain ⟨b1, b2, b3, b4⟩ := hS1.rules 0 (g := g) (t := 27) rfl
  have b5 := (b1 0).trans (show _ = some (.slice AO nO cO) from rfl)
  have b6 := (b1 1).trans (show _ = some (.slice AR nR cR) from rfl)
  have C4 := hide (C4.out _ hS1.below_)
  have HS1 := hide hS1
  clear hb1 hS1 HS0 C1 a2 a3 a5 a6 b4 b1 hr1 hr2 hW
  go_wp2_with fail
  refine C4.out.mono ?_
  rintro e w4 ⟨rfl, hb4⟩
  obtain ⟨g4, hg4⟩ : ∃ g, w4.heap.size = g := ⟨_, rfl⟩
  have hg14 : g1 < g4 := by
    have h := hb4.size
    simp at h
    omega
  have hS4 := (HS1.out.below hb4).blkAt 85 #[.slice none 0 0, .slice none 0 0, .int .i64 0, .int .i64 0, .int .i64 0] hg4
  have hW4 : Below w4.heap.size w4 (w4.alloc (.cells #[.slice none 0 0, .slice none 0 0, .int .i64 0, .int .i64 0, .int .i64 0] 85)) := (Below.refl _ w4).alloc (Nat.le_refl _) _
  have HT1 := hide ((HR1.out.below hb4).below hW4)
  have HT2 := hide ((HR2.out.below hb4).below hW4)
  obtain ⟨b1, b2, b3, b4⟩ := hS4.rules 0 (g := g) (t := 27) rfl
  have b5 := (b1 0).trans (show _ = some (.slice AO nO cO) from rfl)
  have b6 := (b1 1).trans (show _ = some (.slice AR nR cR) from rfl)
  have C5 := hide (C5.out _ hS4.below_)
  have HS4 := hide hS4
  have HG14 := hide hg14
  have HG4 := hide hg4
  clear hb4 hS4 HS1 C4 b4 b1 hW4 HR1 HR2
  go_wp2_with fail
  refine C5.out.mono ?_
  rintro e w5 ⟨B1, d1, B2, m2, d2, rfl, hb5, hq1, hq2⟩
  have hm2 : m2 = n2 := by have h := hq2.1; simp at h; have h2 := HTN.out; omega
  subst hm2
  have hS5 := HS4.out.below hb5
  have hsz5 : g4 < w5.heap.size := hS5.hi 2 rfl g4 rfl
  have hlo : ∀ k, (w4.alloc (.cells #[.slice none 0 0, .slice none 0 0, .int .i64 0, .int .i64 0, .int .i64 0] 85)).heap.size ≤ k → k ≠ g4 := fun k hk => by simp at hk; omega
  have hch : Chg (fun k => k = g4) w5 (((((w5.setCell ⟨g4, 0, none⟩ (.slice B1 nd d1)).setCell ⟨g4, 1, none⟩ (.slice B2 m2 d2)).setCell ⟨g4, 2, none⟩ (.int .i64 (ml : Int))).setCell ⟨g4, 3, none⟩ (.int .i64 (ll : Int))).setCell ⟨g4, 4, none⟩ (.int .i64 (tm : Int))) := (((((Chg.refl (fun k => k = g4) w5).setCell (p := ⟨g4, 0, none⟩) (.inl rfl) (.slice B1 nd d1)).setCell (p := ⟨g4, 1, none⟩) (.inl rfl) (.slice B2 m2 d2)).setCell (p := ⟨g4, 2, none⟩) (.inl rfl) (.int .i64 (ml : Int))).setCell (p := ⟨g4, 3, none⟩) (.inl rfl) (.int .i64 (ll : Int))).setCell (p := ⟨g4, 4, none⟩) (.inl rfl) (.int .i64 (tm : Int))
  have hS6 := ((((hS5.set_ 2 (g := g4) (t := 85) rfl 0 (.slice B1 nd d1)).set_ 2 (g := g4) (t := 85) rfl 1 (.slice B2 m2 d2)).set_ 2 (g := g4) (t := 85) rfl 2 (.int .i64 (ml : Int))).set_ 2 (g := g4) (t := 85) rfl 3 (.int .i64 (ll : Int))).set_ 2 (g := g4) (t := 85) rfl 4 (.int .i64 (tm : Int))
  have HU1 := hide (((HT1.out.below hb5).chg hch (fun k hk hd => by have := HG14.out; omega)).more (D' := fun _ => True) (fun _ _ _ => trivial))
  have HU2 := hide (((HT2.out.below hb5).chg hch (fun k hk hd => by have := HG14.out; omega)).more (D' := fun _ => True) (fun _ _ _ => trivial))
  have HQ1 := hide ((hq1.chg hch (fun k hk hd => hlo k hd hk)).more (D' := fun _ => True) (fun _ _ _ => trivial))
  have HQ2 := hide ((hq2.chg hch (fun k hk hd => hlo k hd hk)).more (D' := fun _ => True) (fun _ _ _ => trivial))
  obtain ⟨z1, z2, z3, _⟩ := hS5.rules 2 (g := g4) (t := 85) rfl
  have z5 := (z1 0).trans (show _ = some (.slice none 0 0) from rfl)
  have z6 := (z1 1).trans (show _ = some (.slice none 0 0) from rfl)
  have z7 := (z1 2).trans (show _ = some (.int .i64 0) from rfl)
  have z8 := (z1 3).trans (show _ = some (.int .i64 0) from rfl)
  have z9 := (z1 4).trans (show _ = some (.int .i64 0) from rfl)
  obtain ⟨x1, x2, x3, _⟩ := hS5.rules 1 (g := g1) (t := 85) rfl
  have x5 := (x1 0).trans (show _ = some (.slice A1 nd c1) from rfl)
  have n1 : g1 ≠ g4 := by omega
  have n2' : g4 ≠ g1 := by omega
  have C6 := hide (C6.out (((((w5.setCell ⟨g4, 0, none⟩ (.slice B1 nd d1)).setCell ⟨g4, 1, none⟩ (.slice B2 m2 d2)).setCell ⟨g4, 2, none⟩ (.int .i64 (ml : Int))).setCell ⟨g4, 3, none⟩ (.int .i64 (ll : Int))).setCell ⟨g4, 4, none⟩ (.int .i64 (tm : Int))) A1 B1 c1 d1 HU1.out HQ1.out)
  have HS6 := hide hS6
  clear hb5 hS5 hS6 HS4 C5 x1 z1 hq1 hq2 hlo hch b2 b3 b5 b6 HU1 HQ1 hg4 hg14 HT1 HT2
  go_wp2_with fail
  refine C6.out.mono ?_
  rintro e w6 ⟨rfl, hb6⟩
  have hS7 := HS6.out.below hb6
  obtain ⟨x1, x2, x3, _⟩ := hS7.rules 1 (g := g1) (t := 85) rfl
  have x6 := (x1 1).trans (show _ = some (.slice A2 m2 c2) from rfl)
  obtain ⟨y1, y2, y3, _⟩ := hS7.rules 2 (g := g4) (t := 85) rfl
  have y6 := (y1 1).trans (show _ = some (.slice B2 m2 d2) from rfl)
  have C8 := hide (C8.out w6 A2 B2 m2 c2 d2 (by have := HTL.out; omega) (HU2.out.below hb6) (HQ2.out.below hb6))
  have HS7 := hide hS7
  clear hb6 hS7 HS6 C6 x1 y1 HU2 HQ2 z2 z3 z5 z6 z7 z8 z9
  go_wp2_with fail
  refine C8.out.mono ?_
  rintro e w8 ⟨rfl, hb8⟩
  have hS8 := HS7.out.below hb8
  have HB8 := hide hS8.below_
  obtain ⟨x1, x2, x3, _⟩ := hS8.rules 1 (g := g1) (t := 85) rfl
  obtain ⟨y1, y2, y3, _⟩ := hS8.rules 2 (g := g4) (t := 85) rfl
  have x7 := (x1 2).trans (show _ = some (.int .i64 (ml : Int)) from rfl)
  have x8 := (x1 3).trans (show _ = some (.int .i64 (ll : Int)) from rfl)
  have x9 := (x1 4).trans (show _ = some (.int .i64 (tm : Int)) from rfl)
  have y7 := (y1 2).trans (show _ = some (.int .i64 (ml : Int)) from rfl)
  have y8 := (y1 3).trans (show _ = some (.int .i64 (ll : Int)) from rfl)
  have y9 := (y1 4).trans (show _ = some (.int .i64 (tm : Int)) from rfl)
  clear hb8 hS8 HS7 x1 y1
  go_wp2_with fail
  go_ret
  exact ⟨rfl, HB8.out⟩
theorem repPlays_walk (w : World) (AO AR Ad : Option Addr) (nO cO nR cR nd cd : Nat) (obs : List Ob) (roots : List Val) (ds : List DoV) (hcp : Caps obs) (hO : ObsRd w (fun _ => True) AO nO obs) (hR : Rd w (fun _ => True) 2 AR nR (vals roots)) (hD : Rd w (fun _ => True) 5 Ad nd (dosV ds)) :
    Calls Try.prog 11 #[.agg #[.slice AO nO cO, .slice AR nR cR], .slice Ad nd cd] w fun e w' => e = .returned (.bool true) ∧ Below w.heap.size w w' := by
  by_cases hz : repErr nO nR nd obs roots = 0
  · exact repPlays_ok w AO AR Ad nO cO nR cR nd cd obs roots ds (fun o ho => (hcp o ho).2) hO hR hD hz
  · exact repPlays_no w AO AR Ad nO cO nR cR nd cd obs roots hO hR hz
end Go.Proofs.Ytjphckfbbiehdaa

namespace Go.Proofs.Ytjphckfbbiehdaa
open Go.ChangeShapes Go.WideShapes Go.Deep Go.RowKit
theorem dosV_at5 (l : List DoV) (q r : Nat) (hr : r < 5) : (dosV l)[q * 5 + r]? = (l[q]?).bind fun d => [Value.int .i64 d.k, .int .i64 d.to, .int .i64 d.fr, .int .i64 d.at_, .int .i64 d.n][r]? := by
  unfold dosV
  induction l generalizing q with
  | nil => rfl
  | cons a l ih =>
    rw [List.flatMap_cons]
    cases q with
    | zero => rw [List.getElem?_append_left (by simp; omega)]; simp
    | succ q => rw [List.getElem?_append_right (by simp; omega), show (q + 1) * 5 + r - [Value.int .i64 a.k, .int .i64 a.to, .int .i64 a.fr, .int .i64 a.at_, .int .i64 a.n].length = q * 5 + r by simp; omega, ih]; rfl
theorem open_dos {H : Type} {enc : TypeId × Value → H} {P : Program} {w : World} {base : Nat} {spare : Nat → Bool} {held : Bool} {t e : TypeId} {v : Value} {d : DataW H} {p : List MemPlace} {fs : Array Field}
    (ht : P.underlying t = some (.slice e)) (he : P.underlying e = some (.struct fs)) (hone : oneCellFields P fs = true) (hC : P.cellsOf e = 5) (hf : fs.size = 5)
    (hi : ∀ (j : Nat) (f : Field), fs[j]? = some f → P.underlying f.type = some (.int .i64)) {r : Reach} {bb : Nat} (hv : Value.okWide P w r bb t v) (h : DataW.Trod enc P w base spare held t v d p) :
    ∃ (A : Option Addr) (n c : Nat) (l : List DoV), v = .slice A n c ∧ n ≤ 9223372036854775807 ∧ l.length = n ∧ Rd w (fun _ => True) 5 A n (dosV l) := by
  obtain ⟨A, n, c, rfl⟩ := okWide_slice ht hv
  obtain ⟨fuel, h⟩ := h
  rcases open_slice ht h with ⟨h0, _⟩ | ⟨a, len, cap, m, n0, D, Pl, hcs, _, hl, hm, hmm, _, hx⟩
  · simp [Value.cells] at h0
    obtain ⟨rfl, rfl, rfl⟩ := h0
    exact ⟨none, 0, 0, [], rfl, by omega, rfl, Rd.nil⟩
  · simp [Value.cells] at hcs
    obtain ⟨rfl, rfl, rfl⟩ := hcs
    have hle : n ≤ m := by rw [hmm]; split <;> omega
    have hmx : c ≤ 9223372036854775807 := by simpa [maxLen] using hm
    have key : ∀ i, i < n → ∃ x : DoV, w.cell? (a.add (i * 5)) = some (.int .i64 x.k) ∧ w.cell? (a.add (i * 5 + 1)) = some (.int .i64 x.to) ∧ w.cell? (a.add (i * 5 + 2)) = some (.int .i64 x.fr) ∧ w.cell? (a.add (i * 5 + 3)) = some (.int .i64 x.at_) ∧ w.cell? (a.add (i * 5 + 4)) = some (.int .i64 x.n) := by
      intro i hi'
      obtain ⟨cs', h1, h2⟩ := hx i (by omega)
      rw [hC] at h1
      obtain ⟨_, hcl, hat⟩ := World.cells?_some h1
      obtain ⟨ys, n', _, _, _, hyl, hj⟩ := DataW.trod_struct he h2
      have one : ∀ j, j < 5 → ∃ k : Int, w.cell? (a.add (i * 5 + j)) = some (.int .i64 k) := by
        intro j hj3
        have hfj : fs[j]? = some (fs[j]'(by omega)) := Array.getElem?_eq_getElem (by omega)
        obtain ⟨ho, hk⟩ := hone_of hone j _ hfj
        have h3 := hj j _ hfj
        rw [ho, hk, List.getElem?_eq_getElem (by omega)] at h3
        obtain ⟨k, e0, _, _⟩ := DataW.trod_int (hi j _ hfj) h3
        refine ⟨k, ?_⟩
        rw [← add_of_add, hat j (by omega)]
        have e1 := congrArg (fun l => l[0]?) e0
        simpa [List.getElem?_take, List.getElem?_drop] using e1
      obtain ⟨x0, hx0⟩ := one 0 (by omega)
      obtain ⟨x1, hx1⟩ := one 1 (by omega)
      obtain ⟨x2, hx2⟩ := one 2 (by omega)
      obtain ⟨x3, hx3⟩ := one 3 (by omega)
      obtain ⟨x4, hx4⟩ := one 4 (by omega)
      exact ⟨⟨x0, x1, x2, x3, x4⟩, hx0, hx1, hx2, hx3, hx4⟩
    haveI : Inhabited DoV := ⟨⟨0, 0, 0, 0, 0⟩⟩
    obtain ⟨f, hf'⟩ := choose_lt key
    refine ⟨some a, n, c, (List.range n).map f, rfl, by omega, by simp, ?_, ?_⟩
    · rw [dosV_length]; simp
    · intro hn
      refine ⟨a, rfl, trivial, ?_, ?_⟩
      · have := block_lt_ (hf' 0 hn).1
        simpa [block_of_add] using this
      · intro j u hu
        obtain ⟨q, r, hr, rfl⟩ : ∃ q r, r < 5 ∧ j = q * 5 + r := ⟨j / 5, j % 5, Nat.mod_lt _ (by omega), by omega⟩
        rw [dosV_at5 _ _ _ hr] at hu
        simp only [List.getElem?_map] at hu
        rcases Nat.lt_or_ge q n with hq | hq
        case inr => rw [List.getElem?_eq_none (by simp; omega)] at hu; cases hu
        rw [List.getElem?_range hq] at hu
        simp only [Option.map_some, Option.bind_some] at hu
        obtain ⟨g0, g1, g2, g3, g4⟩ := hf' q hq
        rcases (show r = 0 ∨ r = 1 ∨ r = 2 ∨ r = 3 ∨ r = 4 by omega) with rfl | rfl | rfl | rfl | rfl
        · simp at hu; subst hu; simpa [add_of_add] using g0
        · simp at hu; subst hu; simpa [add_of_add] using g1
        · simp at hu; subst hu; simpa [add_of_add] using g2
        · simp at hu; subst hu; simpa [add_of_add] using g3
        · simp at hu; subst hu; simpa [add_of_add] using g4
end Go.Proofs.Ytjphckfbbiehdaa
