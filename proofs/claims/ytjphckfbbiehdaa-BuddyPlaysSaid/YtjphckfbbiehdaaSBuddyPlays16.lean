/- A memory with colours, plain: a script; both tell the same. A memory with colours: all white ones go. A memory with colours: from its parts; what the methods do, as the plain deeds say. A memory with colours: small words for what is new. The reference's yard: which free block is chosen. The reference: two rows of blocks are the same; two such answers are the same. The reference: a script on its yard. One ask of a script of pieces. -/
import Derived.Test.YtjphckfbbiehdaaSBuddyPlays15
import Derived.Test.YtjphckfbbiehdaaSBuddyPlays14
import Derived.Test.YtjphckfbbiehdaaSBuddyPlays2
import Derived.BigQuiet
import Derived.Test.YtjphckfbbiehdaaSBuddyPlays11
import Derived.Test.YtjphckfbbiehdaaSBuddyPlays5
import Derived.Laws.StructEq
import Derived.Deep.DeepCutAuto
set_option linter.unusedSimpArgs false
set_option linter.unusedVariables false
namespace Go.Proofs.Ytjphckfbbiehdaa
open Go.RowKit
structure RtOk (q : Nat) (t : RT) : Prop where
  len : t.gone.length = t.σ.objs.length
  ok : CoOk t.a
  inv : CoInv q t.a
  m : MOk t.σ
theorem stepK_len (d : DoV) (σ : MSt) : (stepK d σ).2.objs.length = σ.objs.length + if d.k = 1 then 1 else 0 := by
  unfold stepK
  by_cases h1 : d.k = 1
  · rw [if_pos h1, if_pos h1]; simp
  rw [if_neg h1, if_neg h1]
  split
  · rfl
  split
  · rfl
  split
  · split <;> simp
  split
  · split <;> simp
  split <;> rfl
theorem stepK_m {d : DoV} {σ : MSt} (h : MOk σ) (hw : rWrong d σ = 0) : MOk (stepK d σ).2 := by
  have h1 := (h.step d).1
  rw [stepM_rw, if_neg (by rw [hw]; simp)] at h1
  exact h1
theorem rtStep_len (q : Nat) (d : DoV) {t : RT} (h : t.gone.length = t.σ.objs.length) : (rtStep q d t).2.gone.length = (rtStep q d t).2.σ.objs.length := by
  unfold rtStep
  by_cases h8 : d.k = 8
  · rw [if_pos h8]; split <;> exact h
  rw [if_neg h8]
  by_cases h9 : d.k = 9
  · rw [if_pos h9]
    split
    · exact h
    · dsimp only; rw [goneL_len]; exact h
  rw [if_neg h9]
  split
  · exact h
  split
  · exact h
  dsimp only
  rw [stepK_len]
  split
  · rw [List.length_append, h]; rfl
  · rw [h]; rfl
theorem rtStep_m (q : Nat) (d : DoV) {t : RT} (h : MOk t.σ) : MOk (rtStep q d t).2.σ := by
  unfold rtStep
  by_cases h8 : d.k = 8
  · rw [if_pos h8]; split <;> exact h
  rw [if_neg h8]
  by_cases h9 : d.k = 9
  · rw [if_pos h9]; split <;> exact h
  rw [if_neg h9]
  by_cases hw : rWrong d t.σ ≠ 0
  · rw [if_pos hw]; exact h
  rw [if_neg hw]
  split
  · exact h
  · refine stepK_m h ?_
    rcases Int.decEq (rWrong d t.σ) 0 with h | h
    · exact absurd h hw
    · exact h
theorem RtOk.n {q : Nat} {t : RT} (h : RtOk q t) : t.a.objs.length = t.σ.objs.length := maskL_len _ _ h.len
theorem RtOk.step {q : Nat} (hq : q = 1 ∨ q = 2 ∨ q = 3) {t : RT} (h : RtOk q t) (hn : t.σ.objs.length < 500) (d : DoV) : RtOk q (rtStep q d t).2 ∧ (rtStep q d t).2.σ.objs.length ≤ t.σ.objs.length + 1 ∧ coStep q d t.a = ((rtStep q d t).1, (rtStep q d t).2.a) := by
  have h1 := rt_co q h.len h.ok d
  obtain ⟨o1, o2, o3⟩ := coStep_ok hq h.ok (by rw [h.n]; exact hn) h.inv d
  rw [h1] at o1 o2 o3
  have hl := rtStep_len q d h.len
  refine ⟨⟨hl, o1, o2, rtStep_m q d h.m⟩, ?_, h1⟩
  rw [h.n, show ((rtStep q d t).1, (rtStep q d t).2.a).2.objs = maskL (rtStep q d t).2.σ.objs (rtStep q d t).2.gone from rfl, maskL_len _ _ hl] at o3
  exact o3
end Go.Proofs.Ytjphckfbbiehdaa

namespace Go.Proofs.Ytjphckfbbiehdaa
open Go.RowKit
def CoS.drop (s : CoS) (i : Nat) : CoS := { s with oj := { s.oj with ps := s.oj.ps.set i none } }
end Go.Proofs.Ytjphckfbbiehdaa

namespace Go.Proofs.Ytjphckfbbiehdaa
open Go.RowKit
def CoS.a (s : CoS) (regs : List Val) : CoA := ⟨regs, s.oj.abs, s.cols, s.gone⟩
end Go.Proofs.Ytjphckfbbiehdaa

namespace Go.Proofs.Ytjphckfbbiehdaa
open Go.RowKit
theorem Sep.blkAtF {F : Nat → Prop} {W w : World} {items : List Item} (h : Sep F W w items) (t : TypeId) (cs : Array Value) {g : Nat} (hg : w.heap.size = g) : Sep F W (w.alloc (.cells cs t)) (blkI g t cs :: items) := (h.blkAt t cs hg).perm (List.perm_append_comm (l₂ := [_]))
theorem row_new {W w w' : World} {items : List Item} {i : Item} (h : Sep No W w items) (hP : Sep No w w' [i]) : Sep No W w' (i :: items) :=
  h.consNew hP.below_ _ (hP.get 0 rfl) (fun g hg => (hP.lo 0 rfl g hg).resolve_left (fun h => h))
end Go.Proofs.Ytjphckfbbiehdaa

namespace Go.Proofs.Ytjphckfbbiehdaa
open Go.RowKit
def bestI (F : List Bk) (o : Option Nat) : Int × Int := match o with | none => (-1, 0) | some j => (((F.getD j (0, 0)).1 : Int), ((F.getD j (0, 0)).2 : Int))
theorem bestI_some (F : List Bk) (j : Nat) : bestI F (some j) = (((F.getD j (0, 0)).1 : Int), ((F.getD j (0, 0)).2 : Int)) := rfl
end Go.Proofs.Ytjphckfbbiehdaa

namespace Go.Proofs.Ytjphckfbbiehdaa
open Go.RowKit
theorem neq_bk (w : World) (c n : Int) : (binOp .neq 231 (.agg #[.int .i64 c, .int .i64 n]) (.agg #[.int .i64 c, .int .i64 n])).run Try.prog w = .ok (.bool false) w := by
  have h1 : Try.prog.underlying 231 = some (.struct (Try.prog.fieldsOf 231)) := by kernel_rfl
  have h2 : Try.prog.stoodInHeld 231 = false := by kernel_rfl
  obtain ⟨F, hF⟩ : ∃ F, (Try.prog.fieldsOf 231).toList = F := ⟨_, rfl⟩
  have h5 : F = [F[0]!, F[1]!] := by rw [← hF]; kernel_rfl
  have n1 : (F[0]!).name ≠ "_" := by rw [← hF]; rw [show ((Try.prog.fieldsOf 231).toList[0]!).name = "At" from by kernel_rfl]; decide
  have n2 : (F[1]!).name ≠ "_" := by rw [← hF]; rw [show ((Try.prog.fieldsOf 231).toList[1]!).name = "Len" from by kernel_rfl]; decide
  obtain ⟨t0, ht0⟩ : ∃ t, (F[0]!).type = t := ⟨_, rfl⟩
  obtain ⟨t1, ht1⟩ : ∃ t, (F[1]!).type = t := ⟨_, rfl⟩
  have u0 : ∃ k, Try.prog.underlying t0 = some (.int k) := by rw [← ht0, ← hF]; exact ⟨.i64, by kernel_rfl⟩
  have u1 : ∃ k, Try.prog.underlying t1 = some (.int k) := by rw [← ht1, ← hF]; exact ⟨.i64, by kernel_rfl⟩
  have o0 : ∀ x y, (part t0 #[x, y] (F[0]!).offset).run Try.prog w = .ok x w := fun x y => by rw [← ht0, ← hF]; kernel_rfl
  have o1 : ∀ x y, (part t1 #[x, y] (F[1]!).offset).run Try.prog w = .ok y w := fun x y => by rw [← ht1, ← hF]; kernel_rfl
  rw [run_neq_struct, run_equalIn_agg _ _ _ _ _ h1 h2, hF, h5]
  obtain ⟨k0, u0⟩ := u0
  obtain ⟨k1, u1⟩ := u1
  simp only [Op.eqFields, ht0, ht1, n1, n2, ne_eq, not_false_iff, if_true, Sem.run_ite, Sem.run_bind, o0, o1, Result.andThen_ok, run_equalIn_int w _ _ _ _ _ _ u0, run_equalIn_int w _ _ _ _ _ _ u1]
  simp
theorem guard_bk (w : World) (x y : Operand) (a b : Array Value) : (eqGuard .neq 231 x y (.agg a) (.agg b)).run Try.prog w = .ok () w :=
  run_eqGuard_agg w .neq _ x y _ _ (by kernel_rfl)
set_option maxRecDepth 100000 in
set_option maxHeartbeats 8000000 in
theorem bks_any (w : World) (A1 A2 : Option Addr) (n c1 c2 : Nat) (os : List Bk) (hn : n ≤ 1000) (h1 : Rd w (fun _ => True) 2 A1 n (bkV os)) (h2 : Rd w (fun _ => True) 2 A2 n (bkV os)) :
    Calls Try.prog 51 #[.slice A1 n c1, .slice A2 n c2] w fun e w' => e = .returned (.bool true) ∧ Below w.heap.size w w' := by
  have HL := hide (show os.length = n by have := h1.1; rw [bkV_length] at this; omega)
  have hng := neq_bk
  have hgd := guard_bk
  go_enter Try.func51, Try.ntmps51
  go_wp2_with fail
  go_loopw [5] (fun s wr => ∃ (k : Nat), k ≤ n ∧ s = .int .i64 k ∧ Below w.heap.size w wr) (fun s _ => n - (intOf s).toNat)
  case atStart => exact ⟨0, by omega, rfl, Below.refl _ _⟩
  case round =>
    obtain ⟨k, hk, rfl, hb⟩ := hrel
    by_cases hlt : k < n
    · have hkl : k < os.length := by rw [HL.out]; exact hlt
      obtain ⟨v0, v1⟩ := bkV_at os k hkl
      obtain ⟨ad, hA, _, had, hc, hd⟩ := (h1.below hb).atN hlt
      obtain ⟨ad2, hA2, _, had2, hc2, hd2⟩ := (h2.below hb).atN hlt
      have e0 := hc _ v0
      have e1 := hd 0 _ v1
      have f0 := hc2 _ v0
      have f1 := hd2 0 _ v1
      obtain ⟨o, ho⟩ : ∃ o, os[k] = o := ⟨_, rfl⟩
      rw [ho] at e0 e1 f0 f1
      obtain ⟨cN, mN⟩ := o
      dsimp only at e0 e1 f0 f1
      obtain ⟨c, hc'⟩ : ∃ c : Int, (cN : Int) = c := ⟨_, rfl⟩
      obtain ⟨m, hm'⟩ : ∃ m : Int, (mN : Int) = m := ⟨_, rfl⟩
      rw [hc'] at e0 f0
      rw [hm'] at e1 f1
      subst hA hA2
      have HB := hide hb
      clear hc hd hc2 hd2 v0 v1 hb ho hc' hm'
      go_wp2_with fail
      go_region_held3 (fun w' => w'.cell? (ad.add (k * 2)) = some (.int .i64 c) ∧ w'.cell? ⟨(ad.add (k * 2)).block, (ad.add (k * 2)).off + 1, none⟩ = some (.int .i64 m) ∧ w'.cell? (ad2.add (k * 2)) = some (.int .i64 c) ∧ w'.cell? ⟨(ad2.add (k * 2)).block, (ad2.add (k * 2)).off + 1, none⟩ = some (.int .i64 m)) (go_keep) (fail)
      all_goals go_wp2_with fail
      all_goals exact ⟨⟨k + 1, by omega, by go_num, HB.out.drew⟩, by simp [intOf]; omega⟩
    · obtain rfl : k = n := by omega
      go_wp2_with fail
      go_ret
      exact ⟨rfl, hb⟩
/-- An answer, as a value. -/
def freedV (A1 A2 A3 : Option Addr) (n m c1 c2 c3 : Nat) : Value := .agg #[.slice A1 n c1, .slice A2 n c2, .slice A3 m c3]
set_option maxRecDepth 100000 in
set_option maxHeartbeats 8000000 in
theorem freed_any (w : World) (A1 A2 A3 B1 B2 B3 : Option Addr) (n m c1 c2 c3 d1 d2 d3 : Nat) (cs ats : List Int) (bs : List Bk) (hn : n ≤ 1000) (hm : m ≤ 1000) (h1 : Rd w (fun _ => True) 1 A1 n (ints cs)) (h2 : Rd w (fun _ => True) 1 A2 n (ints ats)) (h3 : Rd w (fun _ => True) 2 A3 m (bkV bs)) (k1 : Rd w (fun _ => True) 1 B1 n (ints cs)) (k2 : Rd w (fun _ => True) 1 B2 n (ints ats)) (k3 : Rd w (fun _ => True) 2 B3 m (bkV bs)) :
    Calls Try.prog 19 #[freedV A1 A2 A3 n m c1 c2 c3, freedV B1 B2 B3 n m d1 d2 d3] w fun e w' => e = .returned (.bool true) ∧ Below w.heap.size w w' := by
  unfold freedV
  obtain ⟨g, hg⟩ : ∃ g, w.heap.size = g := ⟨_, rfl⟩
  have hS := ((Sep.nil No w).blkAt 49 #[.slice A1 n c1, .slice A2 n c2, .slice A3 m c3] hg).blkAt 49 #[.slice B1 n d1, .slice B2 n d2, .slice B3 m d3] (g := g + 1) (by simp [hg])
  have HL := hide (show cs.length = n by have := h1.1; simpa using this)
  have C1 := hide (fun (X : World) (hb : Below w.heap.size w X) => ints_same X (fun _ => True) (fun _ => True) A2 B2 n c2 d2 ats (by omega) (h2.below hb) (k2.below hb))
  have C2 := hide (fun (X : World) (hb : Below w.heap.size w X) => bks_any X A3 B3 m c3 d3 bs hm (h3.below hb) (k3.below hb))
  have HS := hide hS
  clear h2 h3 k2 k3 hm hS
  go_enter Try.func19, Try.ntmps19
  go_wp2_with fail
  go_loopw [5] (fun s wr => ∃ (k : Nat), k ≤ n ∧ s = .int .i64 k ∧ Sep No w wr [blkI g 49 #[.slice A1 n c1, .slice A2 n c2, .slice A3 m c3], blkI (g + 1) 49 #[.slice B1 n d1, .slice B2 n d2, .slice B3 m d3]]) (fun s _ => n - (intOf s).toNat)
  case atStart => exact ⟨0, by omega, rfl, HS.out⟩
  case round =>
    clear HS
    obtain ⟨k, hk, rfl, hS⟩ := hrel
    obtain ⟨a1, a2, a3, -⟩ := hS.rules 0 (g := g) (t := 49) rfl
    obtain ⟨b1, b2, b3, -⟩ := hS.rules 1 (g := g + 1) (t := 49) rfl
    have a5 := (a1 0).trans (show _ = some (.slice A1 n c1) from rfl)
    have a6 := (a1 1).trans (show _ = some (.slice A2 n c2) from rfl)
    have a7 := (a1 2).trans (show _ = some (.slice A3 m c3) from rfl)
    have b5 := (b1 0).trans (show _ = some (.slice B1 n d1) from rfl)
    have b6 := (b1 1).trans (show _ = some (.slice B2 n d2) from rfl)
    have b7 := (b1 2).trans (show _ = some (.slice B3 m d3) from rfl)
    by_cases hlt : k < n
    · have hkl : k < cs.length := by rw [HL.out]; exact hlt
      obtain ⟨ad, hA, _, had, hc⟩ := (h1.below hS.below_).at_ hlt
      obtain ⟨ad2, hA2, _, had2, hc2⟩ := (k1.below hS.below_).at_ hlt
      have e0 := hc (.int .i64 cs[k]) (by simp [List.getElem?_eq_getElem hkl])
      have f0 := hc2 (.int .i64 cs[k]) (by simp [List.getElem?_eq_getElem hkl])
      obtain ⟨x, hx⟩ : ∃ x, cs[k] = x := ⟨_, rfl⟩
      rw [hx] at e0 f0
      subst hA hA2
      have HS := hide hS
      have t1 : (x != x) = false := by simp
      clear hc hc2 hx hS hkl a1 b1
      go_upto_region 6 with fail
      go_quiet (fail)
      go_wp2_with fail
      exact ⟨⟨k + 1, by omega, by go_num, HS.out.drewN _⟩, by simp [intOf]; omega⟩
    · obtain rfl : k = n := by omega
      have C1 := hide (C1.out _ hS.below_)
      have HS := hide hS
      clear hS a1 b1
      go_wp2_with fail
      refine C1.out.mono ?_
      rintro e w6 ⟨rfl, hb6⟩
      have hS6 := HS.out.below hb6
      obtain ⟨a1, a2, a3, -⟩ := hS6.rules 0 (g := g) (t := 49) rfl
      obtain ⟨b1, b2, b3, -⟩ := hS6.rules 1 (g := g + 1) (t := 49) rfl
      have a7 := (a1 2).trans (show _ = some (.slice A3 m c3) from rfl)
      have b7 := (b1 2).trans (show _ = some (.slice B3 m d3) from rfl)
      have C2 := hide (C2.out _ hS6.below_)
      have HB6 := hide hS6.below_
      clear hS6 hb6 HS C1 a1 b1
      go_wp2_with fail
      refine C2.out.mono ?_
      rintro e w7 ⟨rfl, hb7⟩
      have HB7 := hide (HB6.out.trans (hb7.mono HB6.out.size))
      clear hb7 HB6
      go_wp2_with fail
      go_ret
      exact ⟨rfl, HB7.out⟩
end Go.Proofs.Ytjphckfbbiehdaa

namespace Go.Proofs.Ytjphckfbbiehdaa
open Go.RowKit
def askV (l : List (Int × Int)) : List Value := l.flatMap fun q => [.int .i64 q.1, .int .i64 q.2]
theorem askV_length (l : List (Int × Int)) : (askV l).length = l.length * 2 := by
  unfold askV
  induction l with
  | nil => rfl
  | cons b l ih => simp [List.flatMap_cons, ih]; omega
theorem askV_at (l : List (Int × Int)) (k : Nat) (hk : k < l.length) : (askV l)[k * 2]? = some (.int .i64 l[k].1) ∧ (askV l)[k * 2 + 1]? = some (.int .i64 l[k].2) := by
  unfold askV
  induction l generalizing k with
  | nil => cases hk
  | cons b l ih =>
    cases k with
    | zero => exact ⟨rfl, rfl⟩
    | succ k =>
      obtain ⟨h1, h2⟩ := ih k (by simpa using hk)
      rw [List.flatMap_cons]
      refine ⟨?_, ?_⟩
      · rw [List.getElem?_append_right (by simp; omega)]
        simp only [List.length_cons, List.length_nil, List.getElem_cons_succ]
        rw [show (k + 1) * 2 - (0 + 1 + 1) = k * 2 by omega]; exact h1
      · rw [List.getElem?_append_right (by simp; omega)]
        simp only [List.length_cons, List.length_nil, List.getElem_cons_succ]
        rw [show (k + 1) * 2 + 1 - (0 + 1 + 1) = k * 2 + 1 by omega]; exact h2
theorem sErr : SliceT Try.prog 46 30 1 8 := SliceT.mk_ Try.underlying46 (z := .int .i64 0) (by kernel_rfl) rfl (by omega)
theorem bp_name {P : Program} {f : Func} {K : Ending → World → Prop} {e : Exit} {a : Act} {w : World} (h : ∀ X, w = X → bodyPost P f K e a X) : bodyPost P f K e a w := h w rfl
theorem fbInfo : (Try.prog.info? 4).map (fun i => (i.zero, i.size, i.bytes)) = some (some (.bool false), 1, 1) := by kernel_rfl
theorem fbMade (n : Nat) : (madeCells (Value.cells (.bool false)) (n * 1)).toList = bools (List.replicate n false) := by
  rcases Nat.eq_zero_or_pos n with rfl | h
  · simp [madeCells, bools]
  · apply List.ext_getElem (by simp [madeCells, Value.cells, bools])
    intro i h1 h2
    simp [madeCells, Value.cells, bools, Nat.mod_one]
theorem fy_end {F : Nat → Prop} {W w : World} {pre : List Item} {B : Nat} {t : FyT} (h : Sep F W w (pre ++ fyR B t)) : (fyI B t).P w := (Sep.join (l := fyR B t) (h.perm List.perm_append_comm)).get 0 rfl
theorem fy_start {W w : World} {x : Item} {gm By size : Nat} (h : Sep No W w ([x, rowI 4 1 (some ⟨gm, 0, none⟩) size size (bools (List.replicate size false))] ++ [blkI By 135 #[.slice (some ⟨gm, 0, none⟩) size size, .slice none 0 0, .slice none 0 0, .int .i64 0]])) : Sep No W w ([x] ++ fyR By ⟨some ⟨gm, 0, none⟩, size, List.replicate size false, none, 0, none, 0, [], 0⟩) := by
  have h1 := (h.nilRow 3 1).nilRow 3 1
  have e : fyC ⟨some ⟨gm, 0, none⟩, size, List.replicate size false, none, 0, none, 0, [], 0⟩ = #[.slice (some ⟨gm, 0, none⟩) size size, .slice none 0 0, .slice none 0 0, .int .i64 0] := by
    unfold fyC; rw [List.length_replicate]; rfl
  unfold fyR
  rw [e, List.length_replicate]
  exact h1.perm (List.Perm.cons _ (List.Perm.swap _ _ _))
theorem fy_gather {F : Nat → Prop} {W w : World} {pre L : List Item} (h : Sep F W w (pre ++ L)) : Sep F W w (allI pre :: L) := Sep.join h
theorem fy_ungather {F : Nat → Prop} {W w : World} {pre L : List Item} (h : Sep F W w (allI pre :: L)) : Sep F W w (pre ++ L) := Sep.split h
theorem map_snoc {α β : Type} (f : α → β) (l : List α) (a : α) : (l ++ [a]).map f = l.map f ++ [f a] := by rw [List.map_append]; rfl
theorem ints_snoc (l : List Int) (a : Int) : ints (l ++ [a]) = ints l ++ [.int .i64 a] := by simp [ints]
/-- What the walk asks of the reference's yard. -/
structure FyOk (size : Nat) (y : FyA) : Prop where
  len : y.tk.length = size
  last : y.last ≤ 1000
  pl : y.pl.length ≤ 1000
  fit : ∀ (x : Int) (i : Nat), 0 ≤ x → y.find x = some i → x.toNat + (y.pl.getD i (0, 0)).2 ≤ size
theorem FySim.fyok {size : Nat} {a : FrA} {y : FyA} (h : FySim size a y) (hl : y.last ≤ 1000) (hp : y.pl.length ≤ 1000) : FyOk size y :=
  ⟨h.len, hl, hp, fun x i h0 hf => by
    obtain ⟨hi, h1⟩ := FyA.find_some hf
    have h2 := (h.pc i _ (getD_some hi) (by rw [h1]; exact h0)).2.1
    rw [h1] at h2
    exact h2⟩
end Go.Proofs.Ytjphckfbbiehdaa

namespace Go.Proofs.Ytjphckfbbiehdaa
open Go.RowKit
structure BdRel (L M : Nat) (t : BdY) (y : FyA) : Prop where
  fr : t.fr = frO y.tk L
  tf : t.tf = taO y.pl
  nn : ∀ j, t.nn j ≤ M
  tn : t.tn ≤ M
theorem BdRel.up {L M : Nat} {t : BdY} {y : FyA} (h : BdRel L M t y) : BdRel L (M + 1) t y := ⟨h.fr, h.tf, fun j => Nat.le_succ_of_le (h.nn j), Nat.le_succ_of_le h.tn⟩
set_option maxRecDepth 100000 in
set_option maxHeartbeats 16000000 in
theorem bdask_any {F : Nat → Prop} {W0 w : World} {B L : Nat} {t : BdY} {x : Item} (h : Sep F W0 w (x :: bdL B L t)) (hL : L ≤ 7) {y : FyA} (ok : BdOk L y) (M : Nat) (hM : M ≤ 9000) (hr : BdRel L M t y) (qk qn : Int) (hwf : wfI qn) :
    Calls Try.prog 59 #[.pointer (some ⟨B, 0, none⟩), .agg #[.int .i64 qk, .int .i64 qn]] w fun e w' => e = .returned (.tuple #[.int .i64 (fbStep L (qk, qn) y).1.2, .int .i64 (fbStep L (qk, qn) y).1.1]) ∧ ∃ t', BdRel L (M + 1) t' (fbStep L (qk, qn) y).2 ∧ Sep F W0 w' (x :: bdL B L t') := by
  obtain ⟨g, hg⟩ : ∃ g, w.heap.size = g := ⟨_, rfl⟩
  have hS1 := h.blkAtF 127 #[.int .i64 qk, .int .i64 qn] hg
  obtain ⟨z1, z2, z3, -⟩ := hS1.rules 0 (g := g) (t := 127) rfl
  have z5 := (z1 0).trans (show _ = some (.int .i64 qk) from rfl)
  have z6 := (z1 1).trans (show _ = some (.int .i64 qn) from rfl)
  obtain ⟨W1, hW1⟩ : ∃ W, w.alloc (.cells #[.int .i64 qk, .int .i64 qn] 127) = W := ⟨_, rfl⟩
  rw [hW1] at hS1 z2 z3 z5 z6
  have HW1 := hide hW1
  have HS1 := hide hS1
  have HR := hide hr
  have HOK := hide ok
  have HWF := hide hwf
  have hp8 := pow_le8 (show L ≤ 8 by omega)
  have hw2 := wrap_pow (show L ≤ 8 by omega)
  have hw3 := wrap_pow_ (show L ≤ 8 by omega)
  clear h hS1 z1 hW1 hr ok hwf
  by_cases hk1 : qk = 1
  · subst hk1
    by_cases hb : qn < 1 ∨ ((2 ^ L : Nat) : Int) < qn
    · have hst : fbStep L (1, qn) y = ((3, 0), y) := by
        unfold fbStep
        rw [if_pos rfl, if_pos hb]
      rw [hst]
      obtain ⟨p, hp⟩ : ∃ p, 2 ^ L = p := ⟨_, rfl⟩
      rw [hp] at hp8 hw2 hw3 hb
      by_cases hb1 : qn < 1
      · have t1 : decide (qn < 1) = true := by simp [hb1]
        clear hb hb1 hst hp
        go_enter Try.func59, Try.ntmps59
        go_upto_region 1 with fail
        rw [HW1.out]
        go_upto_region 3 with fail
        go_quiet (fail)
        go_wp2_with fail
        refine bodyPost_ret (v := .tuple #[.int .i64 0, .int .i64 3]) (by simp [results, Try.results59, go_sem]) rfl ⟨rfl, t, HR.out.up, (HS1.out.drewN _).sub (List.sublist_cons_self _ _)⟩
      · have t1 : decide (qn < 1) = false := by simp; omega
        have t2 : decide ((p : Int) < qn) = true := by simp; omega
        obtain ⟨b1, b2, b3, -⟩ := HS1.out.rules 2 (g := B) (t := 243) rfl
        have b5 := (b1 0).trans (show _ = some (.int .i64 (L : Int)) from rfl)
        clear hb hb1 hst hp b1
        go_enter Try.func59, Try.ntmps59
        go_upto_region 1 with fail
        rw [HW1.out]
        go_upto_region 3 with fail
        go_quiet (fail)
        go_wp2_with fail
        refine bodyPost_ret (v := .tuple #[.int .i64 0, .int .i64 3]) (by simp [results, Try.results59, go_sem]) rfl ⟨rfl, t, HR.out.up, (HS1.out.drewN _).sub (List.sublist_cons_self _ _)⟩
    · obtain ⟨n, rfl⟩ := int_nat (show 0 ≤ qn from by omega)
      have hn1 : 0 < n := by omega
      have hn2 : n ≤ 2 ^ L := by
        rcases Nat.lt_or_ge (2 ^ L) n with h1 | h1
        · exact absurd (.inr (by exact_mod_cast h1)) hb
        · exact h1
      have hst : fbStep L (1, (n : Int)) y = match pickK (pcs y.tk L 0) n 2 y.last (pcs y.tk L 0).length with
          | none => ((6, 0), y)
          | some i => ((0, (((pcs y.tk L 0).getD i (0, 0)).1 : Int)), y.take ((pcs y.tk L 0).getD i (0, 0)) (2 ^ needN n)) := by
        unfold fbStep
        rw [if_pos rfl, if_neg hb, Int.toNat_natCast]
        rfl
      have HST := hide hst
      obtain ⟨b1, b2, b3, -⟩ := HS1.out.rules 2 (g := B) (t := 243) rfl
      have b5 := (b1 0).trans (show _ = some (.int .i64 (L : Int)) from rfl)
      have CT := hide (fun (N : Nat) => bdtake_any (fy_gather (pre := [_, _]) (HS1.out.drewN N)) hL HOK.out HR.out.fr HR.out.tf n hn1 hn2 M (by omega) HR.out.nn HR.out.tn)
      obtain ⟨p, hp⟩ : ∃ p, 2 ^ L = p := ⟨_, rfl⟩
      rw [hp] at hp8 hw2 hw3 hb hn2
      have t1 : decide ((n : Int) < 1) = false := by simp; omega
      have t1' : decide (n < 1) = false := by simp; omega
      have t2 : decide ((p : Int) < (n : Int)) = false := by simp; omega
      have t2' : decide (p < n) = false := by simp; omega
      clear hb hst hp b1 hn1 hn2
      go_enter Try.func59, Try.ntmps59
      go_upto_region 1 with fail
      rw [HW1.out]
      go_upto_region 3 with fail
      go_quiet (fail)
      go_wp2_with fail
      refine (CT.out _).mono ?_
      rintro e w4 (⟨hno, rfl, hS4⟩ | ⟨i, t', hi, rfl, hS4, hfr', htf', hnn', htn'⟩)
      · have HS4 := hide (fy_ungather hS4)
        have HNO := hide hno
        clear hS4 hno CT HS1
        go_wp2_with fail
        refine bodyPost_ret (v := .tuple #[.int .i64 0, .int .i64 6]) (by simp [results, Try.results59, go_sem]) rfl ⟨by rw [HST.out, HNO.out], t, by rw [HST.out, HNO.out]; exact HR.out.up, HS4.out.sub (List.sublist_cons_self _ _)⟩
      · have HS4 := hide (fy_ungather hS4)
        have HI := hide hi
        have HRL := hide (show BdRel L (M + 1) t' (y.take ((pcs y.tk L 0).getD i (0, 0)) (2 ^ needN n)) from ⟨hfr', htf', hnn', htn'⟩)
        obtain ⟨ba, hba⟩ : ∃ ba, ((pcs y.tk L 0).getD i (0, 0)).1 = ba := ⟨_, rfl⟩
        have HBA := hide hba
        rw [hba]
        have q1 : decide ((0 : Int) ≤ (ba : Int)) = true := by simp
        clear hS4 hi CT HS1 hfr' htf' hnn' htn' hba
        go_wp2_with fail
        refine bodyPost_ret (v := .tuple #[.int .i64 (ba : Int), .int .i64 0]) (by simp [results, Try.results59, go_sem]) rfl ⟨by rw [HST.out, HI.out]; dsimp only; rw [HBA.out], t', by rw [HST.out, HI.out]; exact HRL.out, HS4.out.sub (List.sublist_cons_self _ _)⟩
  · have y1 : (qk == 1) = false := by rw [beq_eq_false_iff_ne]; exact hk1
    by_cases hk2 : qk = 2
    · subst hk2
      have hst : fbStep L (2, qn) y = if 0 ≤ qn then (match y.find qn with | none => (((2, 0), y) : (Int × Int) × FyA) | some i => ((0, 0), y.give i)) else ((2, 0), y) := by
        unfold fbStep
        rw [if_neg (by simp), if_pos rfl]
        rfl
      cases hf : t.tf qn with
      | none =>
        have hno : fbStep L (2, qn) y = ((2, 0), y) := by
          rw [hst]
          by_cases h0 : 0 ≤ qn
          · rw [if_pos h0, BdOk.give_no (by rw [← HR.out.tf]; exact hf) h0]
          · rw [if_neg h0]
        rw [hno]
        have CG := hide (bdgive_no (fy_gather (pre := [_, _]) HS1.out) qn HWF.out hf)
        clear hst hno hf
        go_enter Try.func59, Try.ntmps59
        go_upto_region 1 with fail
        rw [HW1.out]
        go_wp2_with fail
        refine CG.out.mono ?_
        rintro e w4 ⟨rfl, hS4⟩
        have HS4 := hide (fy_ungather hS4)
        clear hS4 CG HS1
        go_wp2_with fail
        refine bodyPost_ret (v := .tuple #[.int .i64 0, .int .i64 2]) (by simp [results, Try.results59, go_sem]) rfl ⟨rfl, t, HR.out.up, HS4.out.sub (List.sublist_cons_self _ _)⟩
      | some k =>
        have hf2 := hf
        rw [HR.out.tf] at hf2
        obtain ⟨i, q, g1, g2, g3, g4, g5, g6, -, g8⟩ := HOK.out.give hf2
        have h0 : 0 ≤ qn := by rw [g2]; exact Int.natCast_nonneg _
        have hyes : fbStep L (2, qn) y = ((0, 0), y.give i) := by rw [hst, if_pos h0, g1]
        rw [hyes]
        have hq : q < 2 ^ (L - k) := (g6.num g4.len g3).1
        have CG := hide (bdgive_any (fy_gather (pre := [_, _]) HS1.out) hL HOK.out HR.out.fr qn k i q hf g2 g3 hq g4 g5 g6 M (by omega) HR.out.nn)
        have HG8 := hide g8
        clear hst hyes hf hf2 g1 g2 g3 g4 g5 g6 g8 h0 hq
        go_enter Try.func59, Try.ntmps59
        go_upto_region 1 with fail
        rw [HW1.out]
        go_wp2_with fail
        refine CG.out.mono ?_
        rintro e w4 ⟨rfl, t', hS4, hfr', htf', hnn', htn'⟩
        have HS4 := hide (fy_ungather hS4)
        have HRL := hide (show BdRel L (M + 1) t' (y.give i) from ⟨hfr', by rw [htf', HR.out.tf, HG8.out], hnn', by have := HR.out.tn; omega⟩)
        clear hS4 CG HS1 hfr' htf' hnn' htn'
        go_wp2_with fail
        refine bodyPost_ret (v := .tuple #[.int .i64 0, .int .i64 0]) (by simp [results, Try.results59, go_sem]) rfl ⟨rfl, t', HRL.out, HS4.out.sub (List.sublist_cons_self _ _)⟩
    · have y2 : (qk == 2) = false := by rw [beq_eq_false_iff_ne]; exact hk2
      have hst : fbStep L (qk, qn) y = ((5, 0), y) := by
        unfold fbStep
        rw [if_neg hk1, if_neg hk2]
      rw [hst]
      clear hst
      go_enter Try.func59, Try.ntmps59
      go_upto_region 1 with fail
      rw [HW1.out]
      go_wp2_with fail
      refine bodyPost_ret (v := .tuple #[.int .i64 0, .int .i64 5]) (by simp [results, Try.results59, go_sem]) rfl ⟨rfl, t, HR.out.up, HS1.out.sub (List.sublist_cons_self _ _)⟩
end Go.Proofs.Ytjphckfbbiehdaa
