/- Which block is picked. Objects by number, some of them gone: what they have in memory; a field's value; a field becomes a value. Objects by number, some of them gone: a new one; which are there. A memory with so many words: where objects stand, as a map in memory. A map from numbers to numbers, told by a function. An entry of a map from numbers, looked for and then laid. A list of free words, made. -/
import Derived.Test.YtjphckfbbiehdaaSFreePlays7
import Derived.BigQuiet
import Derived.Test.YtjphckfbbiehdaaSFreePlays2
import Derived.Maps.OwnOps
import Derived.Maps.OwnSet
import Derived.WideKeyEntry
set_option linter.unusedSimpArgs false
set_option linter.unusedVariables false
namespace Go.Proofs.Ytjphckfbbiehdaa
open Go.RowKit Go.Sort
def pickZ : Option Nat → Int
  | none => -1
  | some i => (i : Int)
set_option maxRecDepth 100000 in
set_option maxHeartbeats 8000000 in
theorem pick_any (w : World) (B g m c n last kf : Nat) (caps : Array Value) (p : Int) (F : List Bk) (hm : m ≤ 1000) (h0 : w.cell? ⟨B, 0, none⟩ = some (.slice (some ⟨g, 0, none⟩) m c)) (hB : B < w.heap.size) (hF : Rd w (fun _ => True) 2 (some ⟨g, 0, none⟩) m (bkV F)) (hk : HowK kf caps p last w) :
    Calls Try.prog 117 #[.pointer (some ⟨B, 0, none⟩), .int .i64 (n : Int), .func (.func kf) #[] caps] w fun e w' => e = .returned (.int .i64 (pickZ (pickK F n p last m))) ∧ Below w.heap.size w w' := by
  have HL := hide (show F.length = m by have := hF.1; rw [bkV_length] at this; omega)
  have hmx : Try.prog.follows .mixedOrders = true := by kernel_rfl
  have HK := hide hk
  go_enter Try.func117, Try.ntmps117
  go_wp2_with fail
  go_loopw [7, 15] (fun s7 s15 wr => ∃ k : Nat, k ≤ m ∧ s15 = .int .i64 (k : Int) ∧ s7 = .int .i64 (pickZ (pickK F n p last k)) ∧ Below w.heap.size w wr) (fun _ s15 _ => m - (intOf s15).toNat)
  case atStart => exact ⟨0, by omega, rfl, rfl, Below.refl _ _⟩
  case round =>
    obtain ⟨k, hkm, rfl, rfl, hb⟩ := hrel
    by_cases hlt : k < m
    · have hkl : k < F.length := by rw [HL.out]; exact hlt
      obtain ⟨v0, v1⟩ := bkV_at F k hkl
      obtain ⟨ad, hA, _, had, hc, hd⟩ := (hF.below hb).atN hlt
      injection hA with hA
      subst hA
      have e0 := hc _ v0
      have e1 := hd 0 _ v1
      simp only [bk_addr, Nat.zero_add] at e0 e1
      have eB := cell_below hb hB h0
      obtain ⟨y, hy⟩ : ∃ y, F[k] = y := ⟨_, rfl⟩
      rw [hy] at e0 e1
      obtain ⟨ba, bl⟩ := y
      dsimp only at e0 e1
      clear hc hd v0 v1
      obtain ⟨W, hW⟩ : ∃ W, W = wr.alloc (.cells #[.int .i64 (ba : Int), .int .i64 (bl : Int)] 231) := ⟨_, rfl⟩
      obtain ⟨g2, hg2⟩ : ∃ g2, g2 = wr.heap.size := ⟨_, rfl⟩
      have bW : Blk W g2 231 #[.int .i64 (ba : Int), .int .i64 (bl : Int)] := by rw [hW, hg2]; exact Blk.new _ _ _
      have hbW0 : Below wr.heap.size wr W := by rw [hW]; exact ((Chg.refl No wr).alloc _).below (fun _ h => h.elim)
      have hbW : Below w.heap.size w W := hb.trans (hbW0.mono hb.size)
      have HBW := hide hbW
      have c0 := fun d os => cell_regrown (bW.cell 0) d os
      have c1 := fun d os => cell_regrown (bW.cell 1) d os
      have cB := fun d os => cell_regrown (cell_below hbW hB h0) d os
      have hgd : F.getD k (0, 0) = (ba, bl) := by rw [List.getD_eq_getElem?_getD, List.getElem?_eq_getElem hkl, hy]; rfl
      have hnx : pickK F n p last (k + 1) = if fitB F n p last (pickK F n p last k) k = true then some k else pickK F n p last k := rfl
      obtain ⟨o, ho⟩ : ∃ o, pickK F n p last k = o := ⟨_, rfl⟩
      rw [ho] at hnx ⊢
      by_cases hfit : n ≤ bl
      · have t1 : decide ((n : Int) ≤ (bl : Int)) = true := by simp [hfit]
        have t2 : (n : Int) ≤ (bl : Int) := by omega
        have t3 : decide (n ≤ bl) = true := by simp [hfit]
        cases o with
        | none =>
          rw [show fitB F n p last none k = true from by unfold fitB; rw [hgd]; dsimp only; rw [t3]; rfl, if_pos rfl] at hnx
          have HNX := hide hnx
          have hz : pickZ none = -1 := rfl
          rw [hz]
          clear hz hnx ho hgd hbW hbW0 bW hb h0 hF hk t3
          go_wp2_with fail
          rw [← hW, ← hg2]
          clear hW hg2
          refine wp_region_quiet_below (by assumption) (by kernel_rfl) ?_
          repeat (go_big_quiet_step (fail))
          refine wpQuiet_nil ?_
          intro _ hw'
          obtain ⟨⟨dq, osq⟩, hw''⟩ := hw'
          subst hw''
          have hbn := HBW.out.trans ((below_regrown W dq osq).mono HBW.out.size)
          go_wp2_with fail
          go_roundw
          case rel => exact ⟨k + 1, by omega, by go_num, by rw [HNX.out]; rfl, hbn⟩
          case measure => simp [intOf]; omega
        | some j =>
          have hj0 := (pickK_some ho).1
          have hjl : j < F.length := by omega
          obtain ⟨v0, v1⟩ := bkV_at F j hjl
          obtain ⟨ad, hA, _, _, hc, hd⟩ := (hF.below hbW).atN (show j < m by omega)
          injection hA with hA
          subst hA
          have f0 := hc _ v0
          have f1 := hd 0 _ v1
          simp only [bk_addr, Nat.zero_add] at f0 f1
          have hjd : F.getD j (0, 0) = F[j] := by rw [List.getD_eq_getElem?_getD, List.getElem?_eq_getElem hjl]; rfl
          obtain ⟨y, hy'⟩ : ∃ y, F[j] = y := ⟨_, rfl⟩
          rw [hy'] at f0 f1 hjd
          obtain ⟨ja, jl⟩ := y
          dsimp only at f0 f1
          have d0 := fun d os => cell_regrown f0 d os
          have d1 := fun d os => cell_regrown f1 d os
          obtain ⟨hcf, hk2⟩ := hk
          obtain ⟨z, hC, hdec⟩ := hk2 (ba, bl) (ja, jl)
          have HC := hide (fun d os => Calls.regrown_of (d := d) (os := os) (hC (grow (redrawn W d) os) (hbW.trans ((below_regrown W d os).mono hbW.size))))
          unfold bkA at HC
          have j1 : decide ((j : Int) < 0) = false := by simp
          have j2 : (j : Int) < (m : Int) := by omega
          have j3 : j < m := by omega
          clear hC hc hd v0 v1 f0 f1 hjl hy'
          by_cases hbt : betterB p last (ba, bl) (ja, jl) = true
          · have t4 : decide (z < 0) = true := by rw [hdec]; exact hbt
            have t5 : z < 0 := by simpa using t4
            rw [show fitB F n p last (some j) k = true from by unfold fitB; rw [hgd]; dsimp only; rw [t3, hjd, hbt]; rfl, if_pos rfl] at hnx
            have HNX := hide hnx
            have hz : pickZ (some j) = (j : Int) := rfl
            rw [hz]
            clear hz hnx ho hgd hbW hbW0 bW hb h0 hF hk2 t3 hjd hdec hbt hj0
            go_wp2_with fail
            rw [← hW, ← hg2]
            clear hW hg2
            refine wp_region_quiet_below (by assumption) (by kernel_rfl) ?_
            repeat (go_big_quiet_step (exact HC.out _ _))
            refine wpQuiet_nil ?_
            intro _ hw'
            obtain ⟨⟨dq, osq⟩, hw''⟩ := hw'
            subst hw''
            have hbn := HBW.out.trans ((below_regrown W dq osq).mono HBW.out.size)
            go_wp2_with fail
            go_roundw
            case rel => exact ⟨k + 1, by omega, by go_num, by rw [HNX.out]; rfl, hbn⟩
            case measure => simp [intOf]; omega
          · rw [Bool.not_eq_true] at hbt
            have t4 : decide (z < 0) = false := by rw [hdec]; exact hbt
            have t5 : ¬ z < 0 := by simpa using t4
            rw [show fitB F n p last (some j) k = false from by unfold fitB; rw [hgd]; dsimp only; rw [t3, hjd, hbt]; rfl, if_neg (by simp)] at hnx
            have HNX := hide hnx
            have hz : pickZ (some j) = (j : Int) := rfl
            rw [hz]
            clear hz hnx ho hgd hbW hbW0 bW hb h0 hF hk2 t3 hjd hdec hbt hj0
            go_wp2_with fail
            rw [← hW, ← hg2]
            clear hW hg2
            refine wp_region_quiet_below (by assumption) (by kernel_rfl) ?_
            repeat (go_big_quiet_step (exact HC.out _ _))
            refine wpQuiet_nil ?_
            intro _ hw'
            obtain ⟨⟨dq, osq⟩, hw''⟩ := hw'
            subst hw''
            have hbn := HBW.out.trans ((below_regrown W dq osq).mono HBW.out.size)
            go_wp2_with fail
            go_roundw
            case rel => exact ⟨k + 1, by omega, by go_num, by rw [HNX.out]; rfl, hbn⟩
            case measure => simp [intOf]; omega
      · have t1 : decide ((n : Int) ≤ (bl : Int)) = false := by simp; omega
        have t2 : ¬ (n : Int) ≤ (bl : Int) := by omega
        have t3 : decide (n ≤ bl) = false := by simp; omega
        rw [show fitB F n p last o k = false from by unfold fitB; rw [hgd]; dsimp only; rw [t3]; rfl, if_neg (by simp)] at hnx
        have HNX := hide hnx
        clear hnx ho hgd hbW hbW0 bW hb h0 hF hk t3
        go_wp2_with fail
        rw [← hW, ← hg2]
        clear hW hg2
        refine wp_region_quiet_below (by assumption) (by kernel_rfl) ?_
        repeat (go_big_quiet_step (fail))
        refine wpQuiet_nil ?_
        intro _ hw'
        obtain ⟨⟨dq, osq⟩, hw''⟩ := hw'
        subst hw''
        have hbn := HBW.out.trans ((below_regrown W dq osq).mono HBW.out.size)
        go_wp2_with fail
        go_roundw
        case rel => exact ⟨k + 1, by omega, by go_num, by rw [HNX.out], hbn⟩
        case measure => simp [intOf]; omega
    · obtain rfl : k = m := by omega
      go_wp2_with fail
      refine bodyPost_ret (v := .int .i64 (pickZ (pickK F n p last k))) (by simp [results, Try.results117, go_sem]) rfl ⟨rfl, hb⟩
end Go.Proofs.Ytjphckfbbiehdaa

namespace Go.Proofs.Ytjphckfbbiehdaa
open Go.RowKit
def opI : Option Po → Item
  | some p => poI p
  | none => allI []
def ptrV (p : Option Po) : Value := .pointer (p.map fun p => ⟨p.B, 0, none⟩)
/-- Objects: where the row of pointers lies, and the objects. -/
structure Oj where
  As : Option Addr
  c : Nat
  ps : List (Option Po)
def ojL (s : Oj) : List Item := rowI 170 1 s.As s.ps.length s.c (s.ps.map ptrV) :: s.ps.map opI
def Oj.v (s : Oj) : Value := .slice s.As s.ps.length s.c
def Oj.abs (s : Oj) : List (Option (List Val)) := s.ps.map fun p => p.map fun p => p.o.fields
def Oj.put (s : Oj) (i k : Nat) (v : Val) (p : Po) : Oj := { s with ps := s.ps.set i (some (p.put k v)) }
end Go.Proofs.Ytjphckfbbiehdaa

namespace Go.Proofs.Ytjphckfbbiehdaa
open Go.RowKit
/-- The numbers of those that are there. -/
def thereK {α : Type} (l : List (Option α)) (k : Nat) : List Int := ((List.range k).filter fun i => (l.getD i none).isSome).map fun i : Nat => (i : Int)
def thereL {α : Type} (l : List (Option α)) : List Int := thereK l l.length
theorem mem_thereL {α : Type} (l : List (Option α)) (x : Int) : x ∈ thereL l ↔ ∃ (i : Nat) (a : α), x = (i : Int) ∧ l[i]? = some (some a) := by
  unfold thereL thereK
  simp only [List.mem_map, List.mem_filter, List.mem_range, List.getD_eq_getElem?_getD]
  constructor
  · rintro ⟨i, ⟨h1, h2⟩, rfl⟩
    rw [List.getElem?_eq_getElem h1] at h2
    simp only [Option.getD_some, Option.isSome_iff_exists] at h2
    obtain ⟨a, ha⟩ := h2
    exact ⟨i, a, rfl, by rw [List.getElem?_eq_getElem h1, ha]⟩
  · rintro ⟨i, a, rfl, h⟩
    obtain ⟨h1, h2⟩ := List.getElem?_eq_some_iff.1 h
    exact ⟨i, ⟨h1, by rw [h]; rfl⟩, rfl⟩
def Oj.new (s : Oj) (As : Option Addr) (c B g n : Nat) : Oj := { As := As, c := c, ps := s.ps ++ [some ⟨B, ⟨some ⟨g, 0, none⟩, n, n, zeroVs n⟩⟩] }
end Go.Proofs.Ytjphckfbbiehdaa

namespace Go.Proofs.Ytjphckfbbiehdaa
open Go.RowKit Go.Maps
theorem owns_tight {w : World} {b n m : Nat} {D : DataW Unit} (h : w.ownsMap Try.prog 3 (plainElem Try.prog 3) b n D) (hm : Maps.size D ≤ m) : w.ownsMap Try.prog 3 (plainElem Try.prog 3) b m D := by
  obtain ⟨es, clock, hb, F, hs, rfl⟩ := h
  refine ⟨es, clock, hb, F, ?_, rfl⟩
  simpa [Maps.size, length_sorted] using hm
theorem lit_ne {x y : Int} (h : x ≠ y) : (Lit.int .i64 x) ≠ .int .i64 y := fun e => by injection e with _ e; exact h e
theorem zeroI_ (w : World) : (zeroValue 3).run Try.prog w = .ok (.int .i64 0) w := by kernel_rfl
def wfI (x : Int) : Prop := (Lit.int .i64 x).wf = true
theorem wfI_of {x : Int} (h0 : 0 ≤ x) (h1 : x ≤ 1000000) : wfI x := by
  show (decide (IntKind.i64.min ≤ x) && decide (x ≤ IntKind.i64.max)) = true
  have e1 : IntKind.i64.min = -9223372036854775808 := by decide
  have e2 : IntKind.i64.max = 9223372036854775807 := by decide
  rw [e1, e2, Bool.and_eq_true, decide_eq_true_eq, decide_eq_true_eq]
  omega
end Go.Proofs.Ytjphckfbbiehdaa

namespace Go.Proofs.Ytjphckfbbiehdaa
open Go.RowKit Go.Maps
/-- A map of at most N entries that says what f says. -/
def fmI (b N : Nat) (f : Int → Option Nat) : Item where
  fp k := k = b
  P w := ∃ D : DataW Unit, w.ownsMap Try.prog 3 (plainElem Try.prog 3) b N D ∧ ∀ x, wfI x → ∀ z, D.atKey (.int .i64 x) z = match f x with | none => z | some m => .lit (.int .i64 (m : Int))
  dom w h k hk := by subst hk; obtain ⟨D, h, _⟩ := h; exact World.ownsMap.lt h
  loc w w' _ hk h := by obtain ⟨D, ⟨es, clock, hb, r⟩, h2⟩ := h; exact ⟨D, ⟨es, clock, (hk b rfl).trans hb, r⟩, h2⟩
set_option maxRecDepth 100000 in
theorem fm_look {w : World} {b N : Nat} {f : Int → Option Nat} (h : (fmI b N f).P w) (x : Int) (hx : wfI x) :
    (Instr.lookup 99 (.map (some b)) (.int .i64 x) true).run Try.prog w = .ok (.tuple #[.int .i64 (match f x with | none => 0 | some m => (m : Int)), .bool (f x).isSome]) w := by
  obtain ⟨D, h1, h2⟩ := h
  have hw0 : (Lit.int .i64 0).wf = true := by decide
  obtain ⟨v, ps, hrun, hv⟩ := h1.look_ok (int_keyed Try.underlying3) Try.underlying99 (zeroI_ w) (plainElem_int Try.underlying3 hw0) (keyOf_int_mk Try.underlying3 hx)
  obtain ⟨c, rfl, hc, _⟩ := plainElem_int_inv Try.underlying3 hv
  simp only [Prod.mk.injEq] at hc
  have h3 := h2 x hx
  have hc1 := (h3 _).symm.trans hc.1
  rw [hrun]
  cases hf : f x with
  | none =>
    simp only [hf] at h3 hc1
    rw [has_false_of_atKey h3]
    injection hc1 with hc1; injection hc1 with _ hc1
    rw [← hc1]; rfl
  | some m =>
    simp only [hf] at h3 hc1
    rw [has_true_of_atKey h3]
    injection hc1 with hc1; injection hc1 with _ hc1
    rw [← hc1]; rfl
theorem Sep.fmNew {F : Nat → Prop} {W w : World} {items : List Item} (hS : Sep F W w items) {g : Nat} (hg : w.heap.size = g) : Sep F W (w.alloc (.map #[] 0)) (items ++ [fmI g 0 (fun _ => none)]) := by
  subst hg
  exact hS.snocNew ((Below.refl _ w).alloc (Nat.le_refl _) _) (fmI w.heap.size 0 (fun _ => none)) ⟨_, World.ownsMap_made _ _ _ _, fun x _ z => rfl⟩ (fun g hg => by rw [show g = w.heap.size from hg]; exact Nat.le_refl _)
end Go.Proofs.Ytjphckfbbiehdaa

namespace Go.Proofs.Ytjphckfbbiehdaa
open Go.RowKit Go.Maps Go.WideElems Go.ChangeMaps Go.MapKept
theorem setB_at (w : World) (b : Nat) (o : Obj) (h : b < w.heap.size) : (setBlock w b o).heap[b]? = some o := by simp [setBlock, h]
theorem setB_twice (w : World) (b : Nat) (o o' : Obj) : setBlock (setBlock w b o) b o' = setBlock w b o' := by simp [setBlock, Array.setIfInBounds_setIfInBounds]
theorem keyed_entry {P : Program} {w : World} {t k e : TypeId} {R : Value → Option (DataW Unit × List MemPlace)} {b : Nat} {es : Array MapEntry} {clock : Nat} (K : Keyed P k) (ht : P.underlying t = some (.map k e)) {z : Value} (hz : ∀ u : World, (zeroValue e).run P u = .ok z u) (hb : w.heap[b]? = some (.map es clock)) (F : Fit P k R es clock)
    {key : Value} {kl : Lit} (hkey : keyOf P k key = some kl) :
    ∃ (v0 : Value) (st : Nat) (w1 : World), (Instr.mapEntry t (.map (some b)) key).run P w = .ok (.tuple #[v0, goInt st]) w1 ∧
      ∀ val : Value, ∃ w2, (Instr.entryStore t (.map (some b)) (goInt st) val).run P w1 = .ok () w2 ∧ (Instr.mapUpdate t (.map (some b)) key val).run P w = .ok () w2 := by
  obtain ⟨s1, s2, _⟩ := F.stamped
  have hbl : b < w.heap.size := (Array.getElem?_eq_some_iff.1 hb).1
  rcases K.find w hkey es.toList F.keys with ⟨h1, h2⟩ | ⟨j, e0, h1, h2, h3⟩
  · refine ⟨z, clock, setBlock w b (.map (es.push ⟨key, z, clock⟩) (clock + 1)), ?_, fun val => ⟨setBlock w b (.map (es.push ⟨key, val, clock⟩) (clock + 1)), ?_, ?_⟩⟩
    · simp [Instr.mapEntry, run_underlying ht, MapKept.run_getObj_map hb, K.check w false hkey, h1, hz, MapKept.run_setObj_map _ hb, Result.andThen, setBlock]
    · have hw2 := setB_at w b (.map (es.push ⟨key, z, clock⟩) (clock + 1)) hbl
      have hidx : (es.push ⟨key, z, clock⟩).findIdx? (fun e => ((e.born : Nat) : Int) == ((clock : Nat) : Int)) = some es.size := by
        rw [findIdx_arr]
        exact findIdx_born (l := (es.push ⟨key, z, clock⟩).toList) (j := es.size) (e0 := ⟨key, z, clock⟩) (by
          simp only [Array.toList_push, List.map_append, List.map_cons, List.map_nil]
          refine List.nodup_append.2 ⟨s2, by simp, fun a ha c hc e1 => ?_⟩
          simp only [List.mem_singleton] at hc
          obtain ⟨x, hx, rfl⟩ := List.mem_map.1 ha
          have := s1 x hx
          omega) (by simp)
      have hmod : (es.push ⟨key, z, clock⟩).modify es.size (fun e => { e with val := val }) = es.push ⟨key, val, clock⟩ := by
        apply Array.ext'
        rw [Array.toList_modify, Array.toList_push, Array.toList_push, ← Array.length_toList, modify_last]
      refine Eq.trans ?_ (congrArg (Result.ok ()) (setB_twice w b (.map (es.push ⟨key, z, clock⟩) (clock + 1)) (.map (es.push ⟨key, val, clock⟩) (clock + 1))))
      obtain ⟨w2, hw2e⟩ : ∃ w2, setBlock w b (.map (es.push ⟨key, z, clock⟩) (clock + 1)) = w2 := ⟨_, rfl⟩
      rw [hw2e] at hw2 ⊢
      simp [Instr.entryStore, MapKept.run_getObj_map hw2, asInt, asIntOf, goInt, hidx, hmod, MapKept.run_setObj_map _ hw2, Result.andThen, setBlock]
    · simp [Instr.mapUpdate, run_underlying ht, MapKept.run_getObj_map hb, K.check w false hkey, h1, MapKept.run_setObj_map _ hb, Result.andThen, setBlock]
  · have hj : es[j]? = some e0 := by simpa using h2
    have hsame : es.modify j (fun e => { e with key := key }) = es := by
      apply Array.ext'
      rw [Array.toList_modify, modify_eq_set _ _ _ _ h2]
      have : ({ e0 with key := key } : MapEntry) = e0 := by rw [← h3]
      rw [this]
      exact set_self _ _ _ h2
    refine ⟨e0.val, e0.born, setBlock w b (.map es clock), ?_, fun val => ⟨setBlock w b (.map (es.modify j (fun e' => { e' with key := key, val := val })) clock), ?_, ?_⟩⟩
    · simp [Instr.mapEntry, run_underlying ht, MapKept.run_getObj_map hb, K.check w false hkey, h1, hj, h3, K.stays w hkey, hsame, MapKept.run_setObj_map _ hb, Result.andThen, setBlock]
    · have hw2 := setB_at w b (.map es clock) hbl
      have hidx : es.findIdx? (fun e => ((e.born : Nat) : Int) == ((e0.born : Nat) : Int)) = some j := by
        rw [findIdx_arr]
        exact findIdx_born s2 h2
      have hmod : es.modify j (fun e => { e with val := val }) = es.modify j (fun e' => { e' with key := key, val := val }) := by
        apply Array.ext'
        rw [Array.toList_modify, Array.toList_modify, modify_eq_set _ _ _ _ h2, modify_eq_set _ _ _ _ h2, ← h3]
      refine Eq.trans ?_ (congrArg (Result.ok ()) (setB_twice w b (.map es clock) (.map (es.modify j (fun e' => { e' with key := key, val := val })) clock)))
      obtain ⟨w2, hw2e⟩ : ∃ w2, setBlock w b (.map es clock) = w2 := ⟨_, rfl⟩
      rw [hw2e] at hw2 ⊢
      simp [Instr.entryStore, MapKept.run_getObj_map hw2, asInt, asIntOf, goInt, hidx, hmod, MapKept.run_setObj_map _ hw2, Result.andThen, setBlock]
    · simp [Instr.mapUpdate, run_underlying ht, MapKept.run_getObj_map hb, K.check w false hkey, h1, hj, h3, K.stays w hkey, MapKept.run_setObj_map _ hb, Result.andThen, setBlock]
set_option maxRecDepth 100000 in
theorem Sep.fmEntry {F : Nat → Prop} {W w : World} {items : List Item} (hS : Sep F W w items) (k : Nat) {b N : Nat} {f : Int → Option Nat} (hk : items[k]? = some (fmI b N f)) (hn : N + 1 < maxLen) (x : Int) (hx : wfI x) (m : Nat) (hm : wfI (m : Int)) :
    ∃ v0 st w1 w2, (Instr.mapEntry 99 (.map (some b)) (.int .i64 x)).run Try.prog w = .ok (.tuple #[v0, goInt st]) w1 ∧ (Instr.entryStore 99 (.map (some b)) (goInt st) (.int .i64 (m : Int))).run Try.prog w1 = .ok () w2 ∧ Sep F W w2 (items.set k (fmI b (N + 1) (putO f x m))) := by
  obtain ⟨D, hown, hD⟩ : (fmI b N f).P w := hS.get k hk
  have ht := hown.tidy (int_keyed Try.underlying3)
  have hs := hown.size_le
  obtain ⟨w', hrun, r1, r2⟩ := hown.update (int_keyed Try.underlying3) Try.underlying99 (by omega) (keyOf_int_mk Try.underlying3 hx) (plainElem_int Try.underlying3 hm)
  have hsz : Maps.size (D.put (.int .i64 x) (.lit (.int .i64 (m : Int)))) ≤ N + 1 := by
    rw [Maps.size_put ht]
    split <;> omega
  have hc : Chg (fun g => g = b) w w' := (Chg.of_grown r2).mono (fun g hx => .inl (by injection hx with hx; exact hx.symm))
  have hown' := hown
  obtain ⟨es, clock, hb, Ft, _, _⟩ := hown'
  obtain ⟨v0, st, w1, h1, h2⟩ := keyed_entry (int_keyed Try.underlying3) Try.underlying99 (fun u => zeroI_ u) hb Ft (keyOf_int_mk Try.underlying3 hx)
  obtain ⟨w2, h3, h4⟩ := h2 (.int .i64 (m : Int))
  have hww : w2 = w' := by
    have h5 := h4.symm.trans hrun
    injection h5
  subst hww
  refine ⟨v0, st, w1, w2, h1, h3, hS.step k hk hc (fmI b (N + 1) (putO f x m)) ⟨_, owns_tight r1 hsz, fun y hy z => ?_⟩ (fun g hg => .inl hg)⟩
  unfold putO
  by_cases hyx : y = x
  · subst hyx
    rw [if_pos rfl, atKey_put_same (k := Lit.int .i64 y) ht.isMap trivial]
  · rw [if_neg hyx, atKey_put_other (lit_ne hyx), hD y hy]
set_option maxRecDepth 100000 in
/-- An entry is struck. -/
theorem wpList_fmDel {w : World} {ops : Array Oper} {rest : List Oper} {o : Oper} {a : Act} {Q : Exit → Act → World → Prop} (hgd : o.guard = none) (m x : Operand) (hop : o.op = Op.call { callee := Callee.builtin Builtin.delete, args := #[m, x], argTypes := #[99, 3] })
    {F : Nat → Prop} {W : World} {items : List Item} (hS : Sep F W w items) (k : Nat) {b N : Nat} {f : Int → Option Nat} (hk : items[k]? = some (fmI b N f)) (y : Int) (hm : a.eval m = .map (some b)) (hx : a.eval x = .int .i64 y)
    (hy : wfI y) (h : ∀ w', Sep F W w' (items.set k (fmI b N (delO f y))) → wpList Try.prog ops Q rest (a.put o.dst (.tuple #[])) w') : wpList Try.prog ops Q (o :: rest) a w := by
  obtain ⟨D, hown, hD⟩ : (fmI b N f).P w := hS.get k hk
  refine wpList_delete_own w hgd m x 99 3 hop 3 (int_keyed Try.underlying3) Try.underlying99 _ b N D hm hown (.int .i64 y) (.int .i64 y) hx (keyOf_int_mk Try.underlying3 hy) ?_
  intro w' h1 h2
  refine h w' (hS.step k hk ((Chg.of_grown h2.grown).mono (fun g hx => .inl (by injection hx with hx; exact hx.symm))) (fmI b N (delO f y)) ⟨_, h1, fun x hx z => ?_⟩ (fun g hg => .inl hg))
  unfold delO
  by_cases hxy : x = y
  · subst hxy
    rw [if_pos rfl, atKey_del_same]
  · rw [if_neg hxy, atKey_del_other (lit_ne hxy), hD x hx]
end Go.Proofs.Ytjphckfbbiehdaa

namespace Go.Proofs.Ytjphckfbbiehdaa
open Go.RowKit
/-- The program's list: where its row lies, its room, its map; what is free, what is taken, where the last one ended. -/
structure FrT where
  g : Nat
  c : Nat
  mb : Nat
  N : Nat
  a : FrA
def frL (B : Nat) (t : FrT) : List Item := [blkI B 131 #[.slice (some ⟨t.g, 0, none⟩) t.a.F.length t.c, .map (some t.mb), .int .i64 (t.a.last : Int)], rowI 231 2 (some ⟨t.g, 0, none⟩) t.a.F.length t.c (bkV t.a.F), fmI t.mb t.N t.a.f]
set_option maxRecDepth 100000 in
set_option maxHeartbeats 4000000 in
theorem frnew_any (w : World) (size : Nat) : Calls Try.prog 47 #[.int .i64 (size : Int)] w fun e w' => ∃ B t, e = .returned (.pointer (some ⟨B, 0, none⟩)) ∧ t.N = 0 ∧ t.a = ⟨[(0, size)], fun _ => none, 0⟩ ∧ Sep No w w' (frL B t) := by
  have hmm := @run_makeMap Try.prog
  go_enter Try.func47, Try.ntmps47
  go_wp2_with fail
  go_ret
  have hb1 : Blk (w.alloc (.cells #[.int .i64 0, .int .i64 (size : Int)] 231)) w.heap.size 231 #[.int .i64 0, .int .i64 (size : Int)] := Blk.new w _ _
  have hR : (rowI 231 2 (some ⟨w.heap.size, 0, none⟩) 1 1 (bkV [(0, size)])).P (w.alloc (.cells #[.int .i64 0, .int .i64 (size : Int)] 231)) := row_shut hb1 (Nat.le_refl _) (by unfold maxLen; omega) rfl rfl
  have h1 := (Sep.nil No w).snocNew ((Below.refl _ w).alloc (Nat.le_refl _) _) _ hR (fun g hg => by
    have : w.heap.size = g := by simpa [rowI, Value.ownBlock] using hg
    omega)
  have h2 := h1.fmNew (g := w.heap.size + 1) (by simp)
  have h3 := h2.blkAt 131 #[.slice (some ⟨w.heap.size, 0, none⟩) 1 1, .map (some (w.heap.size + 1)), .int .i64 0] (g := w.heap.size + 1 + 1) (by simp)
  refine ⟨w.heap.size + 1 + 1, ⟨w.heap.size, 1, w.heap.size + 1, 0, ⟨[(0, size)], fun _ => none, 0⟩⟩, rfl, rfl, rfl, h3.perm ?_⟩
  exact (List.perm_append_comm (l₁ := [_, _]) (l₂ := [_]))
end Go.Proofs.Ytjphckfbbiehdaa
