/- Handles: rows of slots, of marks. Handles: the program's slots: which one a handle names. Handles: errors.As at a target that is a number's variable: a nil error; an error of the target's own type. -/
import Derived.Test.YtkifmnelmmogfaaDoorGHandlePlays0
import Derived.LaidEql
import Derived.Stop.Asserts
import Derived.RowKitTokens
set_option linter.unusedSimpArgs false
set_option linter.unusedVariables false
namespace Go.Proofs.YtkifmnelmmogfaaDoor
open Go.RowKit

theorem sInt : SliceT Tryd.prog 43 2 1 8 := SliceT.mk_ Tryd.underlying43 (z := .int .i64 0) (by kernel_rfl) rfl (by omega)
theorem sBool : SliceT Tryd.prog 44 4 1 1 := SliceT.mk_ Tryd.underlying44 (z := .bool false) (by kernel_rfl) rfl (by omega)
theorem sOut : SliceT Tryd.prog 23 42 3 24 := SliceT.mk_ Tryd.underlying23 (z := .agg #[.int .i64 0, .bool false, .int .i64 0]) (by kernel_rfl) rfl (by omega)
abbrev ints (l : List Int) : List Value := l.map (Value.int .i64)
theorem ret_bool {a b : Bool} (h : a = b) : Ending.returned (.bool a) = .returned (.bool b) := by rw [h]
theorem ret_int {k : IntKind} {a b : Int} (h : a = b) : Ending.returned (.int k a) = .returned (.int k b) := by rw [h]
theorem int_nat {r : Int} (h : 0 ≤ r) : ∃ k : Nat, r = (k : Int) := ⟨r.toNat, by omega⟩
structure OutV where
  code : Int
  rf : Bool
  n : Int
def OutV.val (o : OutV) : Value := .agg #[.int .i64 o.code, .bool o.rf, .int .i64 o.n]
theorem hraddr0 (g j : Nat) : (⟨g, 0, none⟩ : Addr).add j = ⟨g, j, none⟩ := by
  unfold Addr.add; split <;> simp_all
theorem hown_addr {w : World} {b e size n c : Nat} {A : Option Addr} {xs : List Value} (h : w.ownsRow b e size (.slice A n c) n xs) (hn : 0 < n) : ∃ g, A = some ⟨g, 0, none⟩ := by
  rcases h.2 with ⟨hv, rfl⟩ | ⟨g, cap, cur, hv, _⟩
  · injection hv with _ h2 _; omega
  · exact ⟨g, by injection hv⟩

def sltV (l : List Slt) : List Value := l.flatMap fun s => [.int .i64 s.val, .int .i64 s.ver, .bool s.used]
theorem sltV_length (l : List Slt) : (sltV l).length = l.length * 3 := by
  unfold sltV; induction l with
  | nil => rfl
  | cons a l ih => simp [List.flatMap_cons] at ih ⊢; omega
theorem sltV_at (l : List Slt) (k : Nat) (h : k < l.length) : (sltV l)[k * 3]? = some (.int .i64 l[k].val) ∧ (sltV l)[k * 3 + (0 + 1)]? = some (.int .i64 l[k].ver) ∧ (sltV l)[k * 3 + (1 + 1)]? = some (.bool l[k].used) := by
  unfold sltV
  induction l generalizing k with
  | nil => simp at h
  | cons a l ih =>
    cases k with
    | zero => exact ⟨rfl, rfl, rfl⟩
    | succ k =>
      have h2 := ih k (by simpa using h)
      rw [List.flatMap_cons, show (k + 1) * 3 = k * 3 + 1 + 1 + 1 from by omega]
      exact h2
theorem sltV_set (l : List Slt) (j : Nat) (s : Slt) : (((sltV l).set (j * 3) (.int .i64 s.val)).set (j * 3 + 1) (.int .i64 s.ver)).set (j * 3 + 2) (.bool s.used) = sltV (l.set j s) := by
  unfold sltV
  induction l generalizing j with
  | nil => simp
  | cons a l ih =>
    cases j with
    | zero => rfl
    | succ j =>
      rw [List.flatMap_cons, show (j + 1) * 3 = j * 3 + 1 + 1 + 1 from by omega, show j * 3 + 1 + 1 + 1 + 1 = (j * 3 + 1) + 1 + 1 + 1 from by omega, show j * 3 + 1 + 1 + 1 + 2 = (j * 3 + 2) + 1 + 1 + 1 from by omega]
      simp only [List.cons_append, List.nil_append, List.set_cons_succ, List.flatMap_cons]
      rw [ih]
def boolV (l : List Bool) : List Value := l.map .bool
end Go.Proofs.YtkifmnelmmogfaaDoor

namespace Go.Proofs.YtkifmnelmmogfaaDoor
open Go.RowKit

def tbL (Bt gs n : Nat) (sl : List Slt) : List Item := [blkI Bt 33 #[.slice (some ⟨gs, 0, none⟩) n n], rowI 52 3 (some ⟨gs, 0, none⟩) n n (sltV sl)]
def tbI (Bt gs n : Nat) (sl : List Slt) : Item := allI (tbL Bt gs n sl)
theorem tb_cells {Bt gs n : Nat} {sl : List Slt} {w : World} (hP : (tbI Bt gs n sl).P w) : w.cell? ⟨Bt, 0, none⟩ = some (.slice (some ⟨gs, 0, none⟩) n n) ∧ Bt < w.heap.size ∧ sl.length = n ∧ Bt ≠ gs ∧
    ∀ i s, sl[i]? = some s → w.cell? ⟨gs, i * 3, none⟩ = some (.int .i64 s.val) ∧ w.cell? ⟨gs, i * 3 + 1, none⟩ = some (.int .i64 s.ver) ∧ w.cell? ⟨gs, i * 3 + 2, none⟩ = some (.bool s.used) ∧ w.frozen? ⟨gs, i * 3, none⟩ = false ∧ w.frozen? ⟨gs, i * 3 + 1, none⟩ = false ∧ w.frozen? ⟨gs, i * 3 + 2, none⟩ = false ∧ gs < w.heap.size := by
  have hS := (Sep.start hP).flat
  obtain ⟨b1, b2, b3, _⟩ := hS.rules 0 (g := Bt) (t := 33) rfl
  have ho : w.ownsRow 0 52 3 (.slice (some ⟨gs, 0, none⟩) n n) n (sltV sl) := hS.get 1 rfl
  have hl : sl.length = n := by have := ho.1; rw [sltV_length] at this; omega
  refine ⟨(b1 0).trans rfl, b3, hl, fun e => hS.other (a := 0) (b := 1) rfl rfl (by omega) Bt rfl (by rw [e]; rfl), ?_⟩
  intro i s hi
  obtain ⟨hil, hie⟩ := List.getElem?_eq_some_iff.1 hi
  obtain ⟨v0, v1, v2⟩ := sltV_at sl i hil
  obtain ⟨fd, hA, _, hb, hc, hd⟩ := (Rd.of_own (D := fun _ => True) ho (fun _ _ => trivial)).atN (show i < n by omega)
  obtain rfl : (⟨gs, 0, none⟩ : Addr) = fd := by injection hA
  have e0 := hc _ v0
  have e1 := hd 0 _ v1
  have e2 := hd 1 _ v2
  rw [hraddr0] at e0 e1 e2
  rw [hie] at e0 e1 e2
  exact ⟨e0, e1, e2, ho.frozenAt _, ho.frozenAt _, ho.frozenAt _, hb⟩
def refu (n : Int) : Value := .iface 53 (.int .i64 n)
def fndV (gs : Nat) (o : Option Nat) : Value := match o with | some i => .tuple #[.pointer (some ⟨gs, i * 3, none⟩), .nilIface] | none => .tuple #[.pointer none, refu 2]

set_option maxRecDepth 100000 in
set_option maxHeartbeats 4000000 in
theorem find_any {Bt gs n : Nat} {sl : List Slt} {w : World} (hP : (tbI Bt gs n sl).P w) (hn : n ≤ 32) (h : Int) (hb0 : -9223372036854775808 ≤ h) (hb1 : h ≤ 9223372036854775807) :
    Calls Tryd.prog 12 #[.pointer (some ⟨Bt, 0, none⟩), .int .i64 h] w fun e w' => e = .returned (fndV gs (slFind sl h)) ∧ w' = w := by
  obtain ⟨c0, c1, hl, _, hs⟩ := tb_cells hP
  by_cases h0 : h < 0
  · have t1 : decide (h < 0) = true := by simp [h0]
    have hf : slFind sl h = none := by unfold slFind; rw [if_pos (.inl h0)]
    rw [hf]
    unfold fndV refu
    clear hP hs hf hl
    go_enter Tryd.func12, Tryd.ntmps12
    go_wp2_with fail
    refine bodyPost_ret (v := .tuple #[.pointer none, .iface 53 (.int .i64 2)]) (by simp [results, Tryd.results12, go_sem]) rfl ⟨rfl, rfl⟩
  · obtain ⟨H, rfl⟩ := int_nat (show 0 ≤ h by omega)
    have t1 : decide ((H : Int) < 0) = false := by simp
    have e32 : ((H : Int) % 32).toNat = H % 32 := by omega
    by_cases h1 : (n : Int) ≤ (H : Int) % 32
    · have t2 : decide ((n : Int) ≤ (H : Int) % 32) = true := by simp only [h1, decide_true]
      have hf : slFind sl (H : Int) = none := by unfold slFind; rw [if_pos (.inr (by rw [hl]; exact h1))]
      rw [hf]
      unfold fndV refu
      clear hP hs hf hl h1
      go_enter Tryd.func12, Tryd.ntmps12
      go_wp2_with fail
      refine bodyPost_ret (v := .tuple #[.pointer none, .iface 53 (.int .i64 2)]) (by simp [results, Tryd.results12, go_sem]) rfl ⟨rfl, rfl⟩
    · have t2 : decide ((n : Int) ≤ (H : Int) % 32) = false := by simp only [h1, decide_false]
      have hil : H % 32 < sl.length := by omega
      obtain ⟨s, hi⟩ : ∃ s, sl[H % 32]? = some s := ⟨_, List.getElem?_eq_getElem hil⟩
      obtain ⟨e0, e1, e2, _⟩ := hs _ s hi
      have hf : slFind sl (H : Int) = if s.used = true ∧ s.ver = (H : Int) / 32 then some (H % 32) else none := by
        unfold slFind
        rw [if_neg (by omega), e32, hi]
      rw [hf]
      obtain ⟨val, ver, used⟩ := s
      dsimp only at e0 e1 e2 ⊢
      have t3 : H % 32 < n := by omega
      have t4 : (H : Int) % 32 < (n : Int) := by omega
      cases used with
      | false =>
        rw [if_neg (by simp)]
        unfold fndV refu
        clear hP hs hf hl h1 hi hil
        go_enter Tryd.func12, Tryd.ntmps12
        go_wp2_with fail
        refine bodyPost_ret (v := .tuple #[.pointer none, .iface 53 (.int .i64 2)]) (by simp [results, Tryd.results12, go_sem]) rfl ⟨rfl, rfl⟩
      | true =>
        by_cases hv : ver = (H : Int) / 32
        · rw [if_pos ⟨rfl, hv⟩]
          have t5 : (ver == (H : Int) / 32) = true := by simp [hv]
          unfold fndV
          clear hP hs hf hl h1 hi hil hv
          go_enter Tryd.func12, Tryd.ntmps12
          go_wp2_with fail
          refine bodyPost_ret (v := .tuple #[.pointer (some ⟨gs, H % 32 * 3, none⟩), .nilIface]) (by simp [results, Tryd.results12, go_sem]) rfl ⟨rfl, rfl⟩
        · rw [if_neg (fun h => hv h.2)]
          have t5 : (ver == (H : Int) / 32) = false := by simp [hv]
          unfold fndV refu
          clear hP hs hf hl h1 hi hil hv
          go_enter Tryd.func12, Tryd.ntmps12
          go_wp2_with fail
          refine bodyPost_ret (v := .tuple #[.pointer none, .iface 53 (.int .i64 2)]) (by simp [results, Tryd.results12, go_sem]) rfl ⟨rfl, rfl⟩

/-- A slot becomes something else. -/
theorem tb_set {F : Nat → Prop} {W w : World} {Bt gs n : Nat} {sl : List Slt} (h : Sep F W w [tbI Bt gs n sl]) (i : Nat) (s : Slt) :
    Sep F W (((w.setCell ⟨gs, i * 3, none⟩ (.int .i64 s.val)).setCell ⟨gs, i * 3 + 1, none⟩ (.int .i64 s.ver)).setCell ⟨gs, i * 3 + 2, none⟩ (.bool s.used)) [tbI Bt gs n (sl.set i s)] := by
  have h1 : Sep F W w (tbL Bt gs n sl) := h.flat
  have h2 := ((h1.store 1 (g := gs) rfl (i * 3) (.int .i64 s.val)).store 1 (g := gs) rfl (i * 3 + 1) (.int .i64 s.ver)).store 1 (g := gs) rfl (i * 3 + 2) (.bool s.used)
  simp only [List.set_cons_succ, List.set_cons_zero, sltV_set, tbL] at h2
  exact Sep.fold (l := tbL Bt gs n (sl.set i s)) h2
def errV (c : Int) : Value := if c = 0 then .nilIface else refu c

set_option maxRecDepth 100000 in
set_option maxHeartbeats 4000000 in
theorem drop_any {Bt gs n : Nat} {sl : List Slt} {w : World} (hP : (tbI Bt gs n sl).P w) (hn : n ≤ 32) (hver : ∀ s ∈ sl, 0 ≤ s.ver ∧ s.ver ≤ 1000) (h : Int) (hb0 : -9223372036854775808 ≤ h) (hb1 : h ≤ 9223372036854775807) :
    Calls Tryd.prog 11 #[.pointer (some ⟨Bt, 0, none⟩), .int .i64 h] w fun e w' => e = .returned (errV (slStep 2 h sl).1.1) ∧ Sep (tbI Bt gs n sl).fp w w' [tbI Bt gs n (slStep 2 h sl).2] := by
  have C := hide (find_any hP hn h hb0 hb1)
  have hS0 := Sep.start hP
  obtain ⟨F, hF⟩ : ∃ F, (tbI Bt gs n sl).fp = F := ⟨_, rfl⟩
  rw [hF] at hS0 ⊢
  obtain ⟨c0, c1, hl, n1, hs⟩ := tb_cells hP
  have hst : slStep 2 h sl = match slFind sl h with | some i => ((0, 0), sl.set i ⟨0, (sl.getD i ⟨0, 0, false⟩).ver + 1, false⟩) | none => ((2, 0), sl) := rfl
  rw [hst]
  clear hst
  cases hf : slFind sl h with
  | none =>
    dsimp only
    rw [hf] at C
    unfold fndV refu at C
    have HS0 := hide hS0
    clear hs hf hS0 hP hF
    go_enter Tryd.func11, Tryd.ntmps11
    go_wp2_with fail
    refine C.out.mono ?_
    rintro e w1 ⟨rfl, rfl⟩
    go_wp2_with fail
    go_ret
    exact ⟨rfl, HS0.out⟩
  | some i =>
    dsimp only
    rw [hf] at C
    unfold fndV at C
    dsimp only at C
    have hil : i < sl.length := by
      unfold slFind at hf
      split at hf
      · cases hf
      · split at hf
        · rename_i s hs'
          split at hf
          · injection hf with hf; rw [← hf]; exact (List.getElem?_eq_some_iff.1 hs').1
          · cases hf
        · cases hf
    obtain ⟨s, hi⟩ : ∃ s, sl[i]? = some s := ⟨_, List.getElem?_eq_getElem hil⟩
    obtain ⟨e0, e1, e2, e3, e4, e5, e6⟩ := hs _ s hi
    have hg : sl.getD i ⟨0, 0, false⟩ = s := by rw [List.getD_eq_getElem?_getD, hi]; rfl
    rw [hg]
    obtain ⟨v0, v1⟩ := hver s (List.mem_of_getElem? hi)
    obtain ⟨val, ver, used⟩ := s
    dsimp only at e0 e1 e2 v0 v1 ⊢
    have hST := tb_set hS0 i ⟨0, ver + 1, false⟩
    have HST := hide hST
    have hw : IntKind.i64.wrap (ver + 1) = ver + 1 := by simp only [IntKind.wrap_i64]; omega
    obtain ⟨ver1, hver1⟩ : ∃ v, ver + 1 = v := ⟨_, rfl⟩
    rw [hver1] at hw HST ⊢
    have hne : gs ≠ Bt := fun e => n1 e.symm
    clear hs hf hS0 hP hF hST hi hg hil v0 v1 hver
    go_enter Tryd.func11, Tryd.ntmps11
    go_wp2_with fail
    refine C.out.mono ?_
    rintro e w1 ⟨rfl, rfl⟩
    go_wp2_with fail
    go_ret
    exact ⟨rfl, HST.out⟩
end Go.Proofs.YtkifmnelmmogfaaDoor

namespace Go.Proofs.YtkifmnelmmogfaaDoor
open Go.RowKit Go.Extern.Stop Go.Stop Go.Extern

theorem as_nil (t : Value) (w : World) : Calls Tryd.prog 13 #[.nilIface, t] w fun e w' => e = .returned (.bool false) ∧ w' = w := by
  go_enter Tryd.func13, Tryd.ntmps13
  go_wp2
  go_ret
  exact ⟨rfl, rfl⟩

theorem valueOfP (t : Addr) (w : World) : (ReflectliteValue.unpack (.iface 55 (.pointer (some t)))).run Tryd.prog w
    = .ok (.agg #[.pointer (some ⟨1, 55, none⟩), .pointer (some ⟨w.heap.size, 0, none⟩), .int .u64 150]) (w.alloc (.cells #[.pointer (some t)] 55)) := by kernel_rfl
theorem typeP (a : Addr) (w : World) : (ReflectliteValue.methodAny (ReflectliteValue.valueError "reflectlite.Value.Type" 0) (fun t _ _ _ => ReflectliteType.toType t) #[.agg #[.pointer (some ⟨1, 55, none⟩), .pointer (some a), .int .u64 150]]).run Tryd.prog w
    = .ok (.iface 70 (.agg #[.pointer (some ⟨1, 55, none⟩)])) w := by kernel_rfl
theorem methodKind (h : Value) (w : World) : (Go.method 213 70 (.agg #[h]) "Kind").run Tryd.prog w = .ok (35, h) w := by kernel_rfl
theorem kindP (w : World) : ((ReflectliteType.abiMethod fun t => (fun a : Nat => Value.int IntKind.u8 (a : Int)) <$> Rtype.kind t) #[.pointer (some ⟨1, 55, none⟩)]).run Tryd.prog w = .ok (.int .u8 22) w := by kernel_rfl
theorem kindR (w : World) : ((ReflectliteType.abiMethod fun t => (fun a : Nat => Value.int IntKind.u8 (a : Int)) <$> Rtype.kind t) #[.pointer (some ⟨1, 53, none⟩)]).run Tryd.prog w = .ok (.int .u8 2) w := by kernel_rfl

theorem rlm (z : Sem Value) (f : TypeId → Addr → Nat → Nat → Sem Value) (v : Value) :
    ReflectliteValue.method z f #[v] = (do match ← ReflectliteValue.parts v with | none => z | some (t, a, fl) => f t a fl (fl % 32)) := rfl
theorem partsP (a : Addr) (w : World) : (ReflectliteValue.parts (.agg #[.pointer (some ⟨1, 55, none⟩), .pointer (some a), .int .u64 150])).run Tryd.prog w = .ok (some (55, a, 150)) w := by kernel_rfl
theorem isNilP (a p : Addr) (W : World) (ha : W.cell? a = some (.pointer (some p))) :
    (ReflectliteValue.method (ReflectliteValue.valueError "reflectlite.Value.IsNil" 0) ReflectliteValue.isNil #[.agg #[.pointer (some ⟨1, 55, none⟩), .pointer (some a), .int .u64 150]]).run Tryd.prog W = .ok (.bool false) W := by
  rw [rlm]
  simp only [Sem.run_bind, partsP, Result.andThen]
  simp [ReflectliteValue.isNil, loadVar, isAgg, underlying, Tryd.underlying55, ha, Result.andThen]
theorem methodElem (h : Value) (w : World) : (Go.method 213 70 (.agg #[h]) "Elem").run Tryd.prog w = .ok (45, .agg #[h]) w := by kernel_rfl
theorem methodImplements (h : Value) (w : World) : (Go.method 213 70 (.agg #[h]) "Implements").run Tryd.prog w = .ok (46, .agg #[h]) w := by kernel_rfl
theorem methodAssignableTo (h : Value) (w : World) : (Go.method 213 70 (.agg #[h]) "AssignableTo").run Tryd.prog w = .ok (43, .agg #[h]) w := by kernel_rfl
theorem elemP (w : World) : (ReflectliteType.method ReflectliteType.elem #[.agg #[.pointer (some ⟨1, 55, none⟩)]]).run Tryd.prog w = .ok (.iface 70 (.agg #[.pointer (some ⟨1, 53, none⟩)])) w := by kernel_rfl
theorem implementsR (w : World) : (ReflectliteType.relation "Implements" ReflectliteType.implements_ #[.agg #[.pointer (some ⟨1, 53, none⟩)], .iface 70 (.agg #[.pointer (some ⟨1, 37, none⟩)])]).run Tryd.prog w = .ok (.bool true) w := by kernel_rfl
theorem typeOfR (v : Value) (w : World) : (ReflectliteType.typeOf #[.iface 53 v]).run Tryd.prog w = .ok (.iface 70 (.agg #[.pointer (some ⟨1, 53, none⟩)])) w := by kernel_rfl
theorem assignableR (w : World) : (ReflectliteType.relation "AssignableTo" ReflectliteType.assignableTo #[.agg #[.pointer (some ⟨1, 53, none⟩)], .iface 70 (.agg #[.pointer (some ⟨1, 53, none⟩)])]).run Tryd.prog w = .ok (.bool true) w := by kernel_rfl
theorem valueOfR (n : Int) (w : World) : (ReflectliteValue.unpack (.iface 53 (.int .i64 n))).run Tryd.prog w
    = .ok (.agg #[.pointer (some ⟨1, 53, none⟩), .pointer (some ⟨w.heap.size, 0, none⟩), .int .u64 130]) (w.alloc (.cells #[.int .i64 n] 53)) := by kernel_rfl
theorem elemOfP (w : World) : (Rtype.elem? 55).run Tryd.prog w = .ok (some 53) w := by kernel_rfl
theorem mkR (p : Addr) (w : World) : (ReflectliteValue.mk 53 p ReflectliteValue.flagAddr).run Tryd.prog w = .ok (.agg #[.pointer (some ⟨1, 53, none⟩), .pointer (some p), .int .u64 386]) w := by kernel_rfl
theorem elemVP (a p : Addr) (W : World) (ha : W.cell? a = some (.pointer (some p))) :
    (ReflectliteValue.method (ReflectliteValue.valueError "reflectlite.Value.Elem" 0) ReflectliteValue.elem #[.agg #[.pointer (some ⟨1, 55, none⟩), .pointer (some a), .int .u64 150]]).run Tryd.prog W
      = .ok (.agg #[.pointer (some ⟨1, 53, none⟩), .pointer (some p), .int .u64 386]) W := by
  rw [rlm]
  simp only [Sem.run_bind, partsP, Result.andThen]
  simp [ReflectliteValue.elem, loadVar, isAgg, underlying, Tryd.underlying55, ha, Result.andThen, elemOfP, mkR]
theorem rls (v x : Value) : ReflectliteValue.set #[v, x] = (do
    let (some (dst, a, fl), some (src, b, _)) := (← ReflectliteValue.parts v, ← ReflectliteValue.parts x)
      | unsupported (.noEntry "extern/(internal/reflectlite.Value).Set.zeroValue")
    if fl / ReflectliteValue.flagAddr % 2 == 0 then unsupported (.noEntry "extern/(internal/reflectlite.Value).Set.unaddressable")
    let val ← loadVar src b
    if ← Rtype.directlyAssignable dst src then storeVar dst a val
    else if ← Rtype.implements dst src then
      if (← Rtype.kind src) == 20 then
        match val with
        | .nilIface => unsupported (.noEntry "extern/reflectlite: a nil value of one interface type handed on as a value of another")
        | _ => storeVar dst a val
      else storeVar dst a (.iface src val)
    else panicString ("reflectlite.Set: value of type " ++ (← Rtype.spelt src) ++ " is not assignable to type " ++ (← Rtype.spelt dst))
    pure (.tuple #[])) := rfl
theorem partsRa (a : Addr) (w : World) : (ReflectliteValue.parts (.agg #[.pointer (some ⟨1, 53, none⟩), .pointer (some a), .int .u64 386])).run Tryd.prog w = .ok (some (53, a, 386)) w := by kernel_rfl
theorem partsR (a : Addr) (w : World) : (ReflectliteValue.parts (.agg #[.pointer (some ⟨1, 53, none⟩), .pointer (some a), .int .u64 130])).run Tryd.prog w = .ok (some (53, a, 130)) w := by kernel_rfl
theorem directR (w : World) : (Rtype.directlyAssignable 53 53).run Tryd.prog w = .ok true w := by kernel_rfl
theorem sizeR (w : World) : (sizeOf 53).run Tryd.prog w = .ok 1 w := by kernel_rfl
theorem setR (ta b : Addr) (n : Int) (old : Value) (W : World) (hb : W.cell? b = some (.int .i64 n)) (ht : W.cell? ta = some old) (hf : W.frozen? ta = false) :
    (ReflectliteValue.set #[.agg #[.pointer (some ⟨1, 53, none⟩), .pointer (some ta), .int .u64 386], .agg #[.pointer (some ⟨1, 53, none⟩), .pointer (some b), .int .u64 130]]).run Tryd.prog W
      = .ok (.tuple #[]) (W.setCell ta (.int .i64 n)) := by
  rw [rls]
  simp only [Sem.run_bind, partsRa, partsR, Result.andThen]
  simp [ReflectliteValue.flagAddr, loadVar, isAgg, underlying, Tryd.underlying53, hb, Result.andThen, directR, storeVar, Value.cells, storeCells, Addr.add]
  rw [run_store Tryd.prog W ta _ _ (by rfl)]
  simp [ht, hf]

set_option maxHeartbeats 4000000 in
theorem as_hit (n : Int) (t : Addr) (old : Value) (w : World) (hg : w.cell? ⟨0, 0, none⟩ = some (.iface 70 (.agg #[.pointer (some ⟨1, 37, none⟩)]))) (ht0 : w.cell? t = some old) (hf0 : w.frozen? t = false) :
    Calls Tryd.prog 13 #[.iface 53 (.int .i64 n), .iface 55 (.pointer (some t))] w fun ev w' => ev = .returned (.bool true) ∧ w' = ((((w.alloc (.cells #[.pointer (some t)] 55)).alloc (.cells #[.pointer (some ⟨1, 55, none⟩), .pointer (some ⟨w.heap.size, 0, none⟩), .int .u64 150] 59)).alloc (.cells #[.pointer (some ⟨1, 55, none⟩), .pointer (some ⟨w.heap.size, 0, none⟩), .int .u64 150] 59)).alloc (.cells #[.int .i64 n] 53)).setCell t (.int .i64 n) := by
  have h6 := @run_callFunc_extern Tryd.prog 14 _ (fun args => ReflectliteValue.unpack (args.getD 0 (.tuple #[]))) Tryd.func14 (by kernel_rfl) (by kernel_rfl) (by kernel_rfl) (by kernel_rfl)
  have h7 := @run_callFunc_extern Tryd.prog 15 _ (ReflectliteValue.methodAny (ReflectliteValue.valueError "reflectlite.Value.Type" 0) (fun t _ _ _ => ReflectliteType.toType t)) Tryd.func15 (by kernel_rfl) (by kernel_rfl) (by kernel_rfl) (by kernel_rfl)
  have h8 := @run_callFunc_extern Tryd.prog 16 _ (ReflectliteValue.method (ReflectliteValue.valueError "reflectlite.Value.IsNil" 0) ReflectliteValue.isNil) Tryd.func16 (by kernel_rfl) (by kernel_rfl) (by kernel_rfl) (by kernel_rfl)
  have h27 := @run_callFunc_extern Tryd.prog 35 _ (ReflectliteType.abiMethod fun t => do pure (.int .u8 (← Rtype.kind t))) Tryd.func35 (by kernel_rfl) (by kernel_rfl) (by kernel_rfl) (by kernel_rfl)
  have h37 := @run_callFunc_extern Tryd.prog 45 _ (ReflectliteType.method ReflectliteType.elem) Tryd.func45 (by kernel_rfl) (by kernel_rfl) (by kernel_rfl) (by kernel_rfl)
  have h38 := @run_callFunc_extern Tryd.prog 46 _ (ReflectliteType.relation "Implements" ReflectliteType.implements_) Tryd.func46 (by kernel_rfl) (by kernel_rfl) (by kernel_rfl) (by kernel_rfl)
  have h10 := @run_callFunc_extern Tryd.prog 18 _ ReflectliteType.typeOf Tryd.func18 (by kernel_rfl) (by kernel_rfl) (by kernel_rfl) (by kernel_rfl)
  have h35 := @run_callFunc_extern Tryd.prog 43 _ (ReflectliteType.relation "AssignableTo" ReflectliteType.assignableTo) Tryd.func43 (by kernel_rfl) (by kernel_rfl) (by kernel_rfl) (by kernel_rfl)
  have h11 := @run_callFunc_extern Tryd.prog 19 _ (ReflectliteValue.method (ReflectliteValue.valueError "reflectlite.Value.Elem" 0) ReflectliteValue.elem) Tryd.func19 (by kernel_rfl) (by kernel_rfl) (by kernel_rfl) (by kernel_rfl)
  have h12 := @run_callFunc_extern Tryd.prog 20 _ ReflectliteValue.set Tryd.func20 (by kernel_rfl) (by kernel_rfl) (by kernel_rfl) (by kernel_rfl)
  have tO := typeOfR
  have mA := methodAssignableTo
  have a25 := assignableR
  have v25 := valueOfR
  have f6 := valueOfP
  have f7 := typeP
  have mK := methodKind
  have mE := methodElem
  have mI := methodImplements
  have k27 := kindP
  have k25 := kindR
  have e27 := elemP
  have i25 := implementsR
  have n8 := isNilP ⟨w.heap.size, 0, none⟩ t ((w.alloc (.cells #[.pointer (some t)] 55)).alloc (.cells #[.pointer (some ⟨1, 55, none⟩), .pointer (some ⟨w.heap.size, 0, none⟩), .int .u64 150] 59)) (by simp)
  have hlt : 0 < w.heap.size := by
    rcases Nat.eq_zero_or_pos w.heap.size with h0 | h
    · simp [World.cell?, h0] at hg
    · exact h
  have hg2 : ((w.alloc (.cells #[.pointer (some t)] 55)).alloc (.cells #[.pointer (some ⟨1, 55, none⟩), .pointer (some ⟨w.heap.size, 0, none⟩), .int .u64 150] 59)).cell? ⟨0, 0, none⟩ = some (.iface 70 (.agg #[.pointer (some ⟨1, 37, none⟩)])) := by
    rw [World.cell?_alloc_lt _ _ ⟨0, 0, none⟩ (by simp), World.cell?_alloc_lt _ _ ⟨0, 0, none⟩ hlt]; exact hg
  have htl : t.block < w.heap.size := by
    rcases Nat.lt_or_ge t.block w.heap.size with h | h
    · exact h
    · simp [World.cell?, Array.getElem?_eq_none h] at ht0
  have el := elemVP ⟨w.heap.size, 0, none⟩ t (((w.alloc (.cells #[.pointer (some t)] 55)).alloc (.cells #[.pointer (some ⟨1, 55, none⟩), .pointer (some ⟨w.heap.size, 0, none⟩), .int .u64 150] 59)).alloc (.cells #[.pointer (some ⟨1, 55, none⟩), .pointer (some ⟨w.heap.size, 0, none⟩), .int .u64 150] 59)) (by rw [World.cell?_alloc_lt _ _ ⟨w.heap.size, 0, none⟩ (by simp; omega)]; simp)
  have st := setR t ⟨w.heap.size + 1 + 1 + 1, 0, none⟩ n old ((((w.alloc (.cells #[.pointer (some t)] 55)).alloc (.cells #[.pointer (some ⟨1, 55, none⟩), .pointer (some ⟨w.heap.size, 0, none⟩), .int .u64 150] 59)).alloc (.cells #[.pointer (some ⟨1, 55, none⟩), .pointer (some ⟨w.heap.size, 0, none⟩), .int .u64 150] 59)).alloc (.cells #[.int .i64 n] 53))
    (by rw [World.cell?_alloc_at _ _ _ _ (by simp)]; rfl)
    (by rw [World.cell?_alloc_lt _ _ t (by simp; omega), World.cell?_alloc_lt _ _ t (by simp; omega), World.cell?_alloc_lt _ _ t (by simp; omega), World.cell?_alloc_lt _ _ t htl]; exact ht0)
    (by rw [World.frozen?_alloc_old _ _ t (by simp; omega), World.frozen?_alloc_old _ _ t (by simp; omega), World.frozen?_alloc_old _ _ t (by simp; omega), World.frozen?_alloc_old _ _ t (Nat.ne_of_lt htl)]; exact hf0)
  go_enter Tryd.func13, Tryd.ntmps13
  go_wp2
  refine wp_loop_rounds 1 ?_
  rw [rounds_succ]
  go_wp2
  go_ret
  exact ⟨rfl, rfl⟩
end Go.Proofs.YtkifmnelmmogfaaDoor
