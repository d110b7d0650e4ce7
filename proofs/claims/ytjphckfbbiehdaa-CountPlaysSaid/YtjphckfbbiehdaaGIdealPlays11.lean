/- A region that draws its order inside a wide fence: reads and quiet calls, then one step that writes or makes memory: one walk in the text's order. The reference's Refers, Dist, Reach. The reference's Dist, Reach: the walks. -/
import Derived.StillTailTactics
import Derived.RangeFuncCalls
import Derived.OrdersIn
import Derived.TacticsInMore
import Derived.OwnWalkIn
import Derived.Test.YtjphckfbbiehdaaGIdealPlays3
set_option linter.unusedSimpArgs false
set_option linter.unusedVariables false
namespace Go.Proofs.Ytjphckfbbiehdaa
open Go.RowKit

section
variable {F : Fence} {n : Nat} {P : Program} {ops : Array Oper} {md : Region.Mode} {w : World}
/-- A fence that bars nothing. -/
structure WideF (F : Fence) (P : Program) : Prop where
  fn : ∀ f, F.fn f
  depth : F.depth.isSome = true → False
  calls : ∀ {m : Nat} {f : FuncId} {args : Array Value} {w : World} {R : Ending → World → Prop}, Calls P f args w R → CallsIn F m P f args w R
theorem wideF : WideF Fence.wide P := ⟨fun _ => trivial, fun h => (by simp [Fence.wide] at h), fun h => callsIn_wide.2 h⟩
theorem wideF_round (l : Nat) : WideF (Fence.wide.inRound l) P := ⟨fun _ => trivial, fun h => (by simp [Fence.wide] at h), fun h => CallsIn.inRound l (callsIn_wide.2 h)⟩

theorem wpOpIn_of_stOp (hF : WideF F P) {i : Nat} {a : Act} {K : Act → Prop} {K' : Act → World → Prop} {Q' : Exit → Act → World → Prop} (h : ∀ a, K a → K' a w) (hh : stOp P ops w i K a) : wpOpIn F n P ops Q' i K' a w := by
  unfold stOp at hh
  unfold wpOpIn
  split
  · rename_i ho; simp only [ho] at hh; exact h _ hh
  · rename_i o ho
    simp only [ho] at hh
    split
    · rename_i hw
      simp only [hw, if_true] at hh
      refine ⟨fun f _ => hF.fn f, ?_⟩
      have hsem : o.semAt F.round a.eval = execOp a.eval o := by
        by_cases hd : ∃ c, o.op = .defer c
        · obtain ⟨c, hc⟩ := hd
          exfalso
          unfold Oper.still at hh
          simp only [execOp, hc, Sem.run_bind] at hh
          generalize (resolve a.eval c o.type).run P w = r at hh
          cases r with
          | ok d w' => simp [Result.andThen, Oper.stillUpon] at hh
          | halt x w' => simp [Result.andThen, Oper.stillUpon] at hh
        · exact Oper.semAt_plain F _ _ (fun c hc => hd ⟨c, hc⟩)
      rw [hsem]
      unfold Oper.still at hh
      generalize (execOp a.eval o).run P w = r at *
      cases r with
      | ok m w' =>
        cases m <;> simp only [Oper.stillUpon] at hh <;> simp only [Oper.uponIn]
        case enter f args =>
          obtain ⟨rfl, v, hc, hn⟩ := hh
          exact ⟨fun hd => (hF.depth hd).elim, hF.calls (hc.mono fun e w'' ⟨he, hw⟩ => by subst he; subst hw; exact h _ hn)⟩
        all_goals (obtain ⟨rfl, h2⟩ := hh; exact h _ h2)
      | halt x w' => simp only [Oper.stillUpon] at hh
    · rename_i hw; simp only [hw] at hh; exact ⟨fun f _ => hF.fn f, h _ hh⟩

theorem wpAnyIn_of_head (hF : WideF F P) {m g : Nat} {L : Array Bool → Act → Prop} {Q' : Exit → Act → World → Prop} (hL : ∀ listed a, L listed a → wpAnyIn F n P md ops Q' g listed a w) :
    ∀ (f : Nat) (listed : Array Bool) (a : Act), wpAnyL P md ops w m L f listed a → wpAnyIn F n P md ops Q' (f + g) listed a w
  | 0, listed, a, h => by rw [Nat.zero_add]; exact hL _ _ h
  | f + 1, listed, a, h => by
    rw [show f + 1 + g = (f + g) + 1 by omega]
    exact ⟨fun h0 => absurd h0 h.1, fun i hi => wpOpIn_of_stOp hF (fun a' h' => wpAnyIn_of_head hF hL f _ a' h') (h.2 i hi).2⟩

theorem wpAnyIn_of_seq {Q' : Exit → Act → World → Prop} : ∀ (l : List Oper) (k : Nat) (listed : Array Bool) (a : Act) (w : World), (∀ j, l[j]? = ops[k + j]?) →
    Region.seqB md ops l.length k listed = true → wpListIn F n P ops Q' l a w → wpAnyIn F n P md ops Q' l.length listed a w
  | [], _, _, _, _, _, hB, h => ⟨by simpa [Region.seqB] using hB, h⟩
  | o :: l, k, listed, a, w, hl, hB, h => by
    have h0 : ops[k]? = some o := by simpa using (hl 0).symm
    simp only [List.length_cons, Region.seqB, Bool.and_eq_true, decide_eq_true_eq] at hB
    refine ⟨fun h1 => (by rw [hB.1] at h1; cases h1), fun i hi => ?_⟩
    rw [hB.1] at hi
    have hik : i = k := by simpa using hi
    subst hik
    have hw : wpOpIn F n P ops Q' i (wpListIn F n P ops Q' l) a w := by unfold wpOpIn; simp only [h0]; exact h
    exact wpOpIn_mono (fun a' w' h' => wpAnyIn_of_seq l (i + 1) _ a' w' (fun j => by have := hl (j + 1); simpa [Nat.add_assoc, Nat.add_comm 1 j] using this) hB.2 h') hw

theorem wpIn_region_still_tail (hF : WideF F P) {id : Nat} {Q : Exit → Act → World → Prop} {a : Act} {w : World} {l : List Oper} (m : Nat) (hm : P.follows .mixedOrders = true) (hB : Region.lexTailB .any l.toArray m = true)
    (h : wpStill P l.toArray w.drew (fun a' => wpListIn F n P l.toArray Q (l.drop m) a' w.drew) (l.take m) a) : (Code.region id l.toArray true).wpIn F n P Q a w := by
  simp only [Region.lexTailB, Bool.and_eq_true, decide_eq_true_eq] at hB
  obtain ⟨⟨⟨⟨hsel, hn⟩, hs⟩, hc⟩, hlex⟩ := hB
  have hn' : m < l.length := by simpa using hn
  have htl : (l.take m).length = m := by simp; omega
  have hdl : (l.drop m).length = l.toArray.size - m := by simp
  have inv0 : HeadInv .any l.toArray m (Array.replicate l.toArray.size false) :=
    ⟨by simp, fun j oj _ hl => (by rw [getD_replicate_false] at hl; cases hl), fun t _ ht => getD_in (by simpa using ht) (getD_replicate_false _ _)⟩
  have H := wpAnyL_lex (md := .any) (g := l.toArray.size - m) hsel hs hc hn (l.take m) 0 _ a (fun j hj => by
    have hj' : j < m := by rw [htl] at hj; exact hj
    simp [hj']) (by simpa using htl) inv0 (by rw [htl]; exact hlex) h
  refine wpIn_region_any hm ?_
  have := wpAnyIn_of_head (n := n) hF (Q' := Q) (g := l.toArray.size - m) (fun listed a' hL => by
    have := wpAnyIn_of_seq (F := F) (n := n) (P := P) (md := .any) (Q' := Q) (l.drop m) m listed a' w.drew (fun j => by simp [List.getElem?_drop]) (by rw [hdl]; exact hL.1) hL.2
    rwa [hdl] at this) _ _ _ H
  rw [htl, show m + (l.toArray.size - m) = l.toArray.size by omega] at this
  exact this
end
end Go.Proofs.Ytjphckfbbiehdaa

namespace Go.Proofs.Ytjphckfbbiehdaa
open Go.RowKit

def refers (vs : List Val) (i : Int) : Bool := vs.any fun v => v.1 && v.2 == i
def d0 (gs : List (List Val)) (vs : List Val) : List Int := (List.range gs.length).map fun (i : Nat) => if refers vs (i : Int) = true then 0 else -1
/-- One look from i to j, at a turn. -/
def dLook (gs : List (List Val)) (t i : Nat) (d : List Int) (j : Nat) : List Int := if d.getD j 0 < 0 ∧ refers (fieldsI gs (i : Int)) (j : Int) = true then d.set j ((t : Int) + 1) else d
def dFrom (gs : List (List Val)) (t : Nat) (d : List Int) (i : Nat) : List Int := if d.getD i 0 = (t : Int) then (List.range gs.length).foldl (dLook gs t i) d else d
def dTurn (gs : List (List Val)) (d : List Int) (t : Nat) : List Int := (List.range gs.length).foldl (dFrom gs t) d
def distR (gs : List (List Val)) (vs : List Val) : List Int := (List.range gs.length).foldl (dTurn gs) (d0 gs vs)
def reachR (gs : List (List Val)) (vs : List Val) : List Int := ((List.range gs.length).filter fun (i : Nat) => decide (0 ≤ (distR gs vs).getD i 0)).map fun (i : Nat) => (i : Int)

theorem range_snoc_fold {α : Type} (f : α → Nat → α) (a : α) (k : Nat) : (List.range (k + 1)).foldl f a = f ((List.range k).foldl f a) k := by rw [List.range_succ, List.foldl_append]; rfl
theorem dLook_len (gs : List (List Val)) (t i : Nat) (d : List Int) (j : Nat) : (dLook gs t i d j).length = d.length := by unfold dLook; split <;> simp
theorem dLookAll_len (gs : List (List Val)) (t i : Nat) (js : List Nat) (d : List Int) : (js.foldl (dLook gs t i) d).length = d.length := by
  induction js generalizing d with
  | nil => rfl
  | cons a js ih => rw [List.foldl_cons, ih, dLook_len]
theorem dFrom_len (gs : List (List Val)) (t : Nat) (d : List Int) (i : Nat) : (dFrom gs t d i).length = d.length := by unfold dFrom; split; exact dLookAll_len _ _ _ _ _; rfl
theorem dTurn_len (gs : List (List Val)) (d : List Int) (t : Nat) : (dTurn gs d t).length = d.length := by
  unfold dTurn
  generalize List.range gs.length = js
  induction js generalizing d with
  | nil => rfl
  | cons a js ih => rw [List.foldl_cons, ih, dFrom_len]
theorem dFroms_len (gs : List (List Val)) (t : Nat) (js : List Nat) (d : List Int) : (js.foldl (dFrom gs t) d).length = d.length := by
  induction js generalizing d with
  | nil => rfl
  | cons a js ih => rw [List.foldl_cons, ih, dFrom_len]
theorem dTurns_len (gs : List (List Val)) (js : List Nat) (d : List Int) : (js.foldl (dTurn gs) d).length = d.length := by
  induction js generalizing d with
  | nil => rfl
  | cons a js ih => rw [List.foldl_cons, ih, dTurn_len]
theorem d0_len (gs : List (List Val)) (vs : List Val) : (d0 gs vs).length = gs.length := by simp [d0]

/-- All numbers of a list in bounds. -/
def DBd (n : Nat) (d : List Int) : Prop := ∀ x ∈ d, -1 ≤ x ∧ x ≤ (n : Int)
theorem DBd.set {n : Nat} {d : List Int} (h : DBd n d) (j : Nat) {x : Int} (hx : -1 ≤ x ∧ x ≤ (n : Int)) : DBd n (d.set j x) := fun y hy => by
  rcases List.mem_or_eq_of_mem_set hy with h1 | h1
  · exact h y h1
  · subst h1; exact hx
theorem DBd.look {gs : List (List Val)} {n t i : Nat} {d : List Int} (h : DBd n d) (ht : t < n) (j : Nat) : DBd n (dLook gs t i d j) := by
  unfold dLook; split
  · exact h.set j (by omega)
  · exact h
theorem DBd.looks {gs : List (List Val)} {n t i : Nat} (js : List Nat) {d : List Int} (h : DBd n d) (ht : t < n) : DBd n (js.foldl (dLook gs t i) d) := by
  induction js generalizing d with
  | nil => exact h
  | cons a js ih => exact ih (h.look ht a)
theorem DBd.from_ {gs : List (List Val)} {n t : Nat} {d : List Int} (h : DBd n d) (ht : t < n) (i : Nat) : DBd n (dFrom gs t d i) := by
  unfold dFrom; split
  · exact h.looks _ ht
  · exact h
theorem DBd.froms {gs : List (List Val)} {n t : Nat} (js : List Nat) {d : List Int} (h : DBd n d) (ht : t < n) : DBd n (js.foldl (dFrom gs t) d) := by
  induction js generalizing d with
  | nil => exact h
  | cons a js ih => exact ih (h.from_ ht a)
theorem DBd.zero (gs : List (List Val)) (vs : List Val) (n : Nat) : DBd n (d0 gs vs) := fun x hx => by
  obtain ⟨i, _, rfl⟩ := List.mem_map.1 hx
  split <;> omega

theorem dMadeInts (n : Nat) : (madeCells (Value.cells (.int .i64 0)) (n * 1)).toList = ints (List.replicate n 0) := by
  rcases Nat.eq_zero_or_pos n with rfl | h
  · simp [madeCells, ints]
  · apply List.ext_getElem (by simp [madeCells, Value.cells, ints])
    intro i h1 h2
    simp [madeCells, Value.cells, ints, Nat.mod_one]
theorem dInt : (Try.prog.info? 3).map (fun i => (i.zero, i.size, i.bytes)) = some (some (.int .i64 0), 1, 8) := by kernel_rfl
theorem ints_set_ (l : List Int) (k : Nat) (x : Int) : (ints l).set k (.int .i64 x) = ints (l.set k x) := by unfold ints; rw [List.map_set]
theorem refers_snoc (vs : List Val) (v : Val) (i : Int) : refers (vs ++ [v]) i = (refers vs i || (v.1 && v.2 == i)) := by simp [refers]

set_option maxHeartbeats 1600000 in
theorem refers_any (w : World) (A : Option Addr) (n c : Nat) (vs : List Val) (i : Int) (hn : n ≤ 1000) (h : Rd w (fun _ => True) 2 A n (vals vs)) :
    Calls Try.prog 67 #[.slice A n c, .int .i64 i] w fun e w' => e = .returned (.bool (refers vs i)) ∧ Below w.heap.size w w' := by
  have HL := hide (show vs.length = n by have := h.1; rw [vals_length] at this; omega)
  go_enter Try.func67, Try.ntmps67
  go_wp2_with fail
  go_loopw [9] (fun s wr => ∃ k : Nat, k ≤ n ∧ s = .int .i64 k ∧ Hid (refers (vs.take k) i = false) ∧ Below w.heap.size w wr) (fun s _ => n - (intOf s).toNat)
  case atStart => exact ⟨0, by omega, rfl, by simp [Hid, refers], Below.refl _ _⟩
  case round =>
    obtain ⟨k, hk, rfl, HN, hB⟩ := hrel
    have hz := hB.size
    by_cases hlt : k < n
    · have hkl : k < vs.length := by rw [HL.out]; exact hlt
      obtain ⟨ad, hA, _, had, hc, hd⟩ := (h.below hB).atN hlt
      obtain ⟨v0, v1⟩ := vals_at vs k hkl
      have e0 := hc _ v0
      have e1 := hd 0 _ v1
      have HT := hide (List.take_succ_eq_append_getElem hkl)
      have HM := hide (List.getElem_mem hkl)
      obtain ⟨x, hx⟩ : ∃ x, vs[k] = x := ⟨_, rfl⟩
      rw [hx] at e0 e1 HT HM
      subst hA
      clear hc hd v0 v1 hx
      obtain ⟨b, m⟩ := x
      dsimp only at e0 e1
      cases b with
      | false =>
        have HX := hide (show refers (vs.take (k + 1)) i = false from by rw [HT.out, refers_snoc, HN.out]; rfl)
        go_wp2_with fail
        go_roundw
        case rel => exact ⟨k + 1, by omega, by go_num, HX, hB.alloc hz _⟩
        case measure => simp [intOf]; omega
      | true =>
        cases hq : (m == i) with
        | true =>
          have HR := hide (show refers vs i = true from List.any_eq_true.2 ⟨_, HM.out, hq⟩)
          go_wp2_with fail
          go_ret
          exact ⟨by rw [HR.out] <;> rfl, hB.alloc hz _⟩
        | false =>
          have HX := hide (show refers (vs.take (k + 1)) i = false from by rw [HT.out, refers_snoc, HN.out, hq]; rfl)
          go_wp2_with fail
          go_roundw
          case rel => exact ⟨k + 1, by omega, by go_num, HX, hB.alloc hz _⟩
          case measure => simp [intOf]; omega
    · have HR := hide (show refers vs i = false from by
        have h1 := HN.out
        rw [List.take_of_length_le (by rw [HL.out]; omega)] at h1
        exact h1)
      go_wp2_with fail
      go_ret
      exact ⟨by rw [HR.out] <;> rfl, hB⟩
end Go.Proofs.Ytjphckfbbiehdaa

namespace Go.Proofs.Ytjphckfbbiehdaa
open Go.RowKit

theorem take_set_ {d : List Int} {k : Nat} (x : Int) (h : k < d.length) : (d.set k x).take (k + 1) = d.take k ++ [x] := by
  rw [List.take_succ_eq_append_getElem (by simpa using h)]
  simp [List.take_set_of_le (Nat.le_refl k)]
theorem getD_get {d : List Int} {k : Nat} (h : k < d.length) : d.getD k 0 = d[k] := by rw [List.getD_eq_getElem?_getD, List.getElem?_eq_getElem h]; rfl
theorem dLook_keep {gs : List (List Val)} {t i : Nat} {d : List Int} (j : Nat) (h : d.getD i 0 = (t : Int)) : (dLook gs t i d j).getD i 0 = (t : Int) := by
  unfold dLook
  split
  · rename_i hc
    have hne : i ≠ j := by rintro rfl; omega
    rw [List.getD_eq_getElem?_getD, List.getElem?_set_ne (Ne.symm hne), ← List.getD_eq_getElem?_getD]
    exact h
  · exact h
theorem dLooks_keep {gs : List (List Val)} {t i : Nat} (js : List Nat) {d : List Int} (h : d.getD i 0 = (t : Int)) : (js.foldl (dLook gs t i) d).getD i 0 = (t : Int) := by
  induction js generalizing d with
  | nil => exact h
  | cons a js ih => exact ih (dLook_keep a h)
theorem cell_of_ints {w : World} {base e g n c : Nat} {d : List Int} (h : w.ownsRow base e 1 (.slice (some ⟨g, 0, none⟩) n c) n (ints d)) (k : Nat) (hk : k < d.length) : w.cell? ⟨g, k, none⟩ = some (.int .i64 d[k]) := by
  have hl : d.length = n := by have := h.1; simpa using this
  rw [h.cellAt k (by omega)]
  simp [ints, List.getElem?_eq_getElem hk]

set_option maxRecDepth 100000 in
set_option maxHeartbeats 16000000 in
theorem dist_any (w : World) (v : Value) (fss : List (List Val)) (roots : List Val) (h : GraphRd w (fun _ => True) v fss roots) (hn : fss.length ≤ 1000) (hr : roots.length ≤ 1000) (hf : ∀ fs ∈ fss, fs.length ≤ 1000) :
    Calls Try.prog 212 #[v] w fun e w' => ∃ A c, e = .returned (.slice A fss.length c) ∧ Sep No w w' [rowI 3 1 A fss.length c (ints (distR fss roots))] := by
  obtain ⟨AO, nO, cO, AR, nR, cR, obs, rfl, hO, h3, hR⟩ := h.ex
  have hRL : roots.length = nR := by have := hR.1; rw [vals_length] at this; omega
  have HOL := hide hO.len
  have hlen : fss.length = nO := by rw [← h3, List.length_map]; exact hO.len
  have HF := hide hf
  have H3 := hide h3
  have HLEN := hide hlen
  have hnR : nR ≤ 1000 := by omega
  rw [hlen] at hn ⊢
  have hS0 := (Sep.nil No w).blkAt 27 #[.slice AO nO cO, .slice AR nR cR] rfl
  obtain ⟨a1, a2, a3, a4⟩ := hS0.rules 0 (g := w.heap.size) (t := 27) rfl
  clear hf h3 hlen hr h hRL
  go_enter Try.func212, Try.ntmps212
  go_wp2_with (first
    | (at_make
       refine wpList_make rfl (.tmp 10) (.tmp 10) 35 rfl hS0 Try.underlying35 dInt (by omega) .i64 .i64 nO rfl rfl (by omega) ?_
       intro w1 hS1 hb1))
  have hS2 : Sep No w w1 [blkI w.heap.size 27 #[.slice AO nO cO, .slice AR nR cR], rowI 3 1 (some ⟨w.heap.size + 1, 0, none⟩) nO nO (ints (List.replicate nO 0))] := by
    rw [dMadeInts] at hS1
    rw [show (w.alloc (.cells #[.slice AO nO cO, .slice AR nR cR] 27)).heap.size = w.heap.size + 1 from by simp] at hS1
    exact hS1
  have HS2 := hide hS2
  clear a1 a2 a3 a4 hS0 hS1 hb1 hS2
  go_loopw [4] (fun s wr => ∃ (k : Nat) (d : List Int), k ≤ nO ∧ s = .int .i64 k ∧ Hid (d.length = nO) ∧ Hid (d.take k = (d0 fss roots).take k) ∧ Sep No w wr [blkI w.heap.size 27 #[.slice AO nO cO, .slice AR nR cR], rowI 3 1 (some ⟨w.heap.size + 1, 0, none⟩) nO nO (ints d)]) (fun s _ => nO - (intOf s).toNat)
  case atStart => exact ⟨0, _, by omega, rfl, by simp [Hid], by simp [Hid], HS2.out⟩
  case round =>
    clear HS2
    obtain ⟨k, d, hk, rfl, HDL, HDT, hS⟩ := hrel
    by_cases hlt : k < nO
    · have hkl : k < d.length := by rw [HDL.out]; exact hlt
      have hrow : wr.ownsRow 0 3 1 (.slice (some ⟨w.heap.size + 1, 0, none⟩) nO nO) nO (ints d) := hS.get 1 rfl
      have f1 := cell_of_ints hrow k hkl
      obtain ⟨y1, hy1⟩ : ∃ y, d[k] = y := ⟨_, rfl⟩
      rw [hy1] at f1
      clear hy1
      have f2 := hrow.frozenAt k
      have hS3 := hS.store 1 rfl k (.int .i64 (-1))
      rw [ints_set_] at hS3
      obtain ⟨g1, g2, g3, g4⟩ := hS3.rules 0 (g := w.heap.size) (t := 27) rfl
      have HT0 := hide (show (d0 fss roots).take (k + 1) = (d0 fss roots).take k ++ [if refers roots (k : Int) = true then 0 else -1] from by
        rw [List.take_succ_eq_append_getElem (by rw [d0_len, HLEN.out]; exact hlt)]
        simp [d0])
      have C := refers_any (wr.setCell ⟨w.heap.size + 1, k, none⟩ (.int .i64 (-1))) AR nR cR roots (k : Int) hnR (hR.below hS3.below_)
      have HS3 := hide hS3
      have hSg := hS.hi 1 rfl (w.heap.size + 1) rfl
      have HTS := hide (fun x => take_set_ (d := d) (k := k) x hkl)
      have HKL := hide hkl
      cases hq : refers roots (k : Int) with
      | true =>
        rw [hq] at C HT0
        have HC := hide C
        clear hrow hS3 hS C hkl hq
        go_wp2_with fail
        refine HC.out.mono ?_
        rintro e w4 ⟨rfl, hb4⟩
        have hS4 : Sep No w w4 [blkI w.heap.size 27 #[.slice AO nO cO, .slice AR nR cR], rowI 3 1 (some ⟨w.heap.size + 1, 0, none⟩) nO nO (ints (d.set k (-1)))] := HS3.out.below hb4
        have hrow4 : w4.ownsRow 0 3 1 (.slice (some ⟨w.heap.size + 1, 0, none⟩) nO nO) nO (ints (d.set k (-1))) := hS4.get 1 rfl
        have f3 := cell_of_ints hrow4 k (by rw [List.length_set]; exact HKL.out)
        have f4 := hrow4.frozenAt k
        have hS5 := hS4.store 1 rfl k (.int .i64 0)
        rw [ints_set_, List.set_set] at hS5
        have HS5 := hide hS5
        have hSg4 := hS4.hi 1 rfl (w.heap.size + 1) rfl
        clear hS4 hrow4 hS5 HC HS3 f1 f2 g1 g2 g3 g4 hb4
        go_wp2_with fail
        go_roundw
        case rel => exact ⟨k + 1, d.set k 0, by omega, by go_num, by rw [List.length_set]; exact HDL, by
          show _ = _
          rw [HTS.out, HDT.out, HT0.out]; rfl, HS5.out⟩
        case measure => simp [intOf]; omega
      | false =>
        rw [hq] at C HT0
        have HC := hide C
        clear hrow hS3 hS C hkl hq
        go_wp2_with fail
        refine HC.out.mono ?_
        rintro e w4 ⟨rfl, hb4⟩
        have HS5 := hide (HS3.out.below hb4)
        clear HC HS3 f1 f2 g1 g2 g3 g4 hb4
        go_wp2_with fail
        go_roundw
        case rel => exact ⟨k + 1, d.set k (-1), by omega, by go_num, by rw [List.length_set]; exact HDL, by
          show _ = _
          rw [HTS.out, HDT.out, HT0.out]; rfl, HS5.out⟩
        case measure => simp [intOf]; omega
    · obtain rfl : k = nO := by omega
      have hd : d = d0 fss roots := by
        have h1 := HDT.out
        rw [List.take_of_length_le (by rw [HDL.out]; omega), List.take_of_length_le (by rw [d0_len, HLEN.out]; omega)] at h1
        exact h1
      subst hd
      have HS := hide hS
      clear hS HDT HDL hlt
      go_wp2_with fail
      go_loopw [5] (fun s w2 => ∃ (t : Nat) (d : List Int), t ≤ k ∧ s = .int .i64 t ∧ Hid (d = (List.range t).foldl (dTurn fss) (d0 fss roots)) ∧ Sep No w w2 [blkI w.heap.size 27 #[.slice AO k cO, .slice AR nR cR], rowI 3 1 (some ⟨w.heap.size + 1, 0, none⟩) k k (ints d)]) (fun s _ => k - (intOf s).toNat)
      case atStart => exact ⟨0, _, by omega, rfl, rfl, HS.out⟩
      case round =>
        clear HS
        obtain ⟨t, dT, ht, rfl, HDT, hS⟩ := hrel
        have HDTL := hide (show dT.length = k from by rw [HDT.out, dTurns_len, d0_len, HLEN.out])
        by_cases hlt : t < k
        · have HS := hide hS
          clear hS
          go_wp2_with fail
          go_loopw [6] (fun s w3 => ∃ (i : Nat) (d : List Int), i ≤ k ∧ s = .int .i64 i ∧ Hid (d = (List.range i).foldl (dFrom fss t) dT) ∧ Sep No w w3 [blkI w.heap.size 27 #[.slice AO k cO, .slice AR nR cR], rowI 3 1 (some ⟨w.heap.size + 1, 0, none⟩) k k (ints d)]) (fun s _ => k - (intOf s).toNat)
          case atStart => exact ⟨0, dT, by omega, rfl, rfl, HS.out⟩
          case round =>
            clear HS
            obtain ⟨i, dF, hi, rfl, HDF, hS⟩ := hrel
            have HDFL := hide (show dF.length = k from by rw [HDF.out, dFroms_len]; exact HDTL.out)
            by_cases hli : i < k
            · have hil : i < obs.length := by rw [HOL.out]; exact hli
              have hEach := hO.each _ (List.getElem_mem hil)
              have hFl := hO.flen (List.getElem_mem hil)
              obtain ⟨adO, hAO, _, _, hcO⟩ := hO.row.at_ hli
              have hfi : fieldsI fss (i : Int) = obs[i].fields := by
                unfold fieldsI
                rw [← H3.out, List.getD_eq_getElem?_getD]
                simp [List.getElem?_eq_getElem hil]
              have hfb := HF.out _ (show obs[i].fields ∈ fss by rw [← H3.out]; exact List.mem_map.2 ⟨_, List.getElem_mem hil, rfl⟩)
              have hRow := hO.row
              have hval : (obs.map Ob.val)[i]? = some obs[i].val := by simp [List.getElem?_eq_getElem hil]
              obtain ⟨o, ho⟩ : ∃ o, obs[i] = o := ⟨_, rfl⟩
              rw [ho] at hEach hFl hfi hfb hval
              rw [hFl] at hfb
              unfold Ob.val at hval
              have HFI := hide hfi
              have HVAL := hide hval
              have HROW := hide hRow
              have HEACH := hide hEach
              subst hAO
              clear hFl hfi hval hRow hEach ho hcO
              have HS := hide hS
              clear hS
              go_wp2_with fail
              go_loopw [7] (fun s w4 => ∃ (j : Nat) (d : List Int), j ≤ k ∧ s = .int .i64 j ∧ Hid (d = (List.range j).foldl (dLook fss t i) dF) ∧ Hid (dF.getD i 0 ≠ (t : Int) → j = 0) ∧ Sep No w w4 [blkI w.heap.size 27 #[.slice (some adO) k cO, .slice AR nR cR], rowI 3 1 (some ⟨w.heap.size + 1, 0, none⟩) k k (ints d)]) (fun s _ => k - (intOf s).toNat)
              case atStart => exact ⟨0, dF, by omega, rfl, rfl, fun _ => rfl, HS.out⟩
              case round =>
                clear HS
                obtain ⟨j, d, hj, rfl, HD, HJ, hS⟩ := hrel
                have hdl : d.length = k := by rw [HD.out, dLookAll_len]; exact HDFL.out
                have HDL := hide hdl
                have hrow : wr.ownsRow 0 3 1 (.slice (some ⟨w.heap.size + 1, 0, none⟩) k k) k (ints d) := hS.get 1 rfl
                have fi1 := cell_of_ints hrow i (by omega)
                have hgdi := getD_get (d := d) (k := i) (by omega)
                by_cases hA : dF.getD i 0 = (t : Int)
                · have hdi : d.getD i 0 = (t : Int) := by rw [HD.out]; exact dLooks_keep _ hA
                  rw [← hgdi, hdi] at fi1
                  have HAA := hide hA
                  clear hgdi hdi hA
                  by_cases hlj : j < k
                  · have fj1 := cell_of_ints hrow j (by omega)
                    have fj2 := hrow.frozenAt j
                    have hgdj := getD_get (d := d) (k := j) (by omega)
                    have hSg := hS.hi 1 rfl (w.heap.size + 1) rfl
                    have HST := hide (show (List.range (j + 1)).foldl (dLook fss t i) dF = dLook fss t i d j from by rw [range_snoc_fold, ← HD.out])
                    obtain ⟨y, hy⟩ : ∃ y, d[j]'(by omega) = y := ⟨_, rfl⟩
                    rw [hy] at fj1 hgdj
                    by_cases hneg : y < 0
                    · have k1 : decide (y < 0) = true := by simp [hneg]
                      obtain ⟨g1, g2, g3, g4⟩ := hS.rules 0 (g := w.heap.size) (t := 27) rfl
                      obtain ⟨adO', hAO', _, had, hcO'⟩ := (HROW.out.below hS.below_).at_ hli
                      obtain rfl : adO = adO' := Option.some.inj hAO'
                      have e0 := hcO' _ HVAL.out
                      have C := refers_any wr o.A o.n o.c o.fields (j : Int) hfb (HEACH.out.below hS.below_)
                      have HS := hide hS
                      cases hq : refers o.fields (j : Int) with
                      | true =>
                        have HX := hide (show dLook fss t i d j = d.set j ((t : Int) + 1) from by unfold dLook; rw [HFI.out, hgdj, if_pos ⟨hneg, hq⟩])
                        rw [hq] at C
                        have HC := hide C
                        clear hS hrow hdl hgdj hy hcO' hAO' hq C hneg
                        go_wp2_with fail
                        refine HC.out.mono ?_
                        rintro e w5 ⟨rfl, hb5⟩
                        have hS5 := HS.out.below hb5
                        have hrow5 : w5.ownsRow 0 3 1 (.slice (some ⟨w.heap.size + 1, 0, none⟩) k k) k (ints d) := hS5.get 1 rfl
                        have f3 := hrow5.cellAt j (by omega)
                        rw [show (ints d)[j]? = some (.int .i64 (d[j]'(by rw [HDL.out]; exact hlj))) from by simp [ints, List.getElem?_eq_getElem (show j < d.length by rw [HDL.out]; exact hlj)]] at f3
                        have f4 := hrow5.frozenAt j
                        have hS6 := hS5.store 1 rfl j (.int .i64 ((t : Int) + 1))
                        rw [ints_set_] at hS6
                        have HS6 := hide hS6
                        have hSg5 := hS5.hi 1 rfl (w.heap.size + 1) rfl
                        clear hS5 hrow5 hS6 HC HS hb5 g1 g2 g3 g4 e0 fi1 fj1 fj2 had
                        go_wp2_with fail
                        go_roundw
                        case rel => exact ⟨j + 1, d.set j ((t : Int) + 1), by omega, by go_num, by rw [HST.out, HX.out]; rfl, fun h => absurd HAA.out h, HS6.out⟩
                        case measure => simp [intOf]; omega
                      | false =>
                        have HX := hide (show dLook fss t i d j = d from by unfold dLook; rw [HFI.out, if_neg (by rw [hq]; simp)])
                        rw [hq] at C
                        have HC := hide C
                        clear hS hrow hdl hgdj hy hcO' hAO' hq C hneg
                        go_wp2_with fail
                        refine HC.out.mono ?_
                        rintro e w5 ⟨rfl, hb5⟩
                        have HS6 := hide (HS.out.below hb5)
                        clear HC HS hb5 g1 g2 g3 g4 e0 fi1 fj1 fj2 had
                        go_wp2_with fail
                        go_roundw
                        case rel => exact ⟨j + 1, d, by omega, by go_num, by rw [HST.out, HX.out]; rfl, fun h => absurd HAA.out h, HS6.out⟩
                        case measure => simp [intOf]; omega
                    · have k1 : decide (y < 0) = false := by simp only [hneg, decide_false]
                      have HX := hide (show dLook fss t i d j = d from by unfold dLook; rw [if_neg (by rw [hgdj]; exact fun h => hneg h.1)])
                      have HS := hide hS
                      clear hS hrow hdl hgdj hy hneg
                      go_wp2_with fail
                      go_roundw
                      case rel => exact ⟨j + 1, d, by omega, by go_num, by rw [HST.out, HX.out]; rfl, fun h => absurd HAA.out h, HS.out⟩
                      case measure => simp [intOf]; omega
                  · obtain rfl : j = k := by omega
                    have HX := hide (show (List.range (i + 1)).foldl (dFrom fss t) dT = d from by
                      rw [range_snoc_fold, ← HDF.out, HD.out]
                      unfold dFrom
                      rw [if_pos HAA.out, HLEN.out])
                    have HS := hide hS
                    clear hS hrow hdl
                    go_wp2_with fail
                    go_roundw
                    case rel => exact ⟨i + 1, d, by omega, by go_num, by rw [HX.out]; rfl, HS.out⟩
                    case measure => simp [intOf]; omega
                · obtain rfl : j = 0 := HJ.out hA
                  have hdd : d = dF := by rw [HD.out]; rfl
                  subst hdd
                  have HX := hide (show (List.range (i + 1)).foldl (dFrom fss t) dT = d from by
                    rw [range_snoc_fold, ← HDF.out]
                    unfold dFrom
                    rw [if_neg hA])
                  rw [hgdi] at hA
                  obtain ⟨y, hy⟩ : ∃ y, d[i]'(by omega) = y := ⟨_, rfl⟩
                  rw [hy] at fi1 hA
                  have k1 : (y == (t : Int)) = false := by simp [hA]
                  have HS := hide hS
                  clear hS hrow hdl hgdi hA hy
                  go_wp2_with fail
                  go_roundw
                  case rel => exact ⟨i + 1, d, by omega, by go_num, by rw [HX.out]; rfl, HS.out⟩
                  case measure => simp [intOf]; omega
            · obtain rfl : i = k := by omega
              have HX := hide (show (List.range (t + 1)).foldl (dTurn fss) (d0 fss roots) = dF from by
                rw [range_snoc_fold, ← HDT.out, HDF.out]
                unfold dTurn
                rw [HLEN.out])
              have HS := hide hS
              clear hS
              go_wp2_with fail
              go_roundw
              case rel => exact ⟨t + 1, dF, by omega, by go_num, by rw [HX.out]; rfl, HS.out⟩
              case measure => simp [intOf]; omega
        · obtain rfl : t = k := by omega
          have HX := hide (show distR fss roots = dT from by unfold distR; rw [HLEN.out]; exact HDT.out.symm)
          have HS := hide hS
          clear hS
          go_wp2_with fail
          go_ret
          first
            | exact ⟨_, _, rfl, by rw [HX.out]; exact HS.out.sub (by simp)⟩
            | exact ⟨some ⟨w.heap.size + 1, 0, none⟩, t, rfl, by rw [HX.out]; exact HS.out.sub (by simp)⟩
end Go.Proofs.Ytjphckfbbiehdaa
