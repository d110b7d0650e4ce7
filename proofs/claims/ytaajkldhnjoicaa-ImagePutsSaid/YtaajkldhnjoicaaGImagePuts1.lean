/- image: lists of values, lists of objects, a graph as bytes: the program's. image: a graph as bytes: the program's. image: Put, the program's. -/
import Derived.Test.YtaajkldhnjoicaaGImagePuts0
import Derived.Test.YtaajkldhnjoicaaGGraphTells7
set_option linter.unusedSimpArgs false
set_option linter.unusedVariables false
namespace Go.Proofs.Ytaajkldhnjoicaa
open Go.RowKit

def valsB (l : List Val) : List Int := numB l.length ++ l.flatMap valB
def ValOk (v : Val) : Prop := -9223372036854775808 ≤ v.2 ∧ v.2 ≤ 9223372036854775807
theorem flat_snoc {α β : Type} (l : List α) (x : α) (f : α → List β) : (l ++ [x]).flatMap f = l.flatMap f ++ f x := by simp
theorem bys_app (a b : List Int) : bys (a ++ b) = bys a ++ bys b := by simp [bys]
theorem valB_len' (v : Val) : (valB v).length ≤ 12 := by have := numB_len v.2; rw [valB_len]; omega
theorem bys_row {F : Nat → Prop} {W w : World} {items : List Item} (h : Sep F W w items) (k : Nat) {A : Option Addr} {n c : Nat} {l : List Int} (hk : items[k]? = some (rowI 5 1 A n c (bys l))) : l.length = n := by
  have := (h.rd_ k hk).1; simpa [bys] using this

set_option maxRecDepth 100000 in
set_option maxHeartbeats 4000000 in
theorem listV_any (w : World) (A AL : Option Addr) (n c nL cL : Nat) (xs : List Int) (l : List Val) (hn : n ≤ 100000) (hnl : nL ≤ 1000) (hs : (rowI 5 1 A n c (bys xs)).P w) (hl : Rd w (fun g => ¬ (rowI 5 1 A n c (bys xs)).fp g) 2 AL nL (vals l)) (hv : ∀ v ∈ l, ValOk v) :
    Calls Try.prog 114 #[.slice A n c, .slice AL nL cL, .func (.func 115) #[] #[]] w fun e w' => ∃ A' c', e = .returned (.slice A' (n + (valsB l).length) c') ∧ Sep (rowI 5 1 A n c (bys xs)).fp w w' [rowI 5 1 A' (n + (valsB l).length) c' (bys (xs ++ valsB l))] := by
  have HLL := hide (show l.length = nL by have := hl.1; rw [vals_length] at this; omega)
  have HV := hide hv
  obtain ⟨F, hF⟩ : ∃ F, (rowI 5 1 A n c (bys xs)).fp = F := ⟨_, rfl⟩
  have HS0 := hide (Sep.start hs)
  have HXL := hide (bys_row (Sep.start hs) 0 rfl)
  rw [hF] at HS0 hl ⊢
  have C1 := hide (numP_any w nL (by omega) (by omega))
  have HNL := hide (numB_len nL)
  have HVB := hide (show valsB l = numB nL ++ l.flatMap valB by unfold valsB; rw [HLL.out])
  generalize numB nL = N at C1 HNL HVB
  clear hF hs hv
  go_enter Try.func114, Try.ntmps114
  go_wp2_with fail
  refine C1.out.mono ?_
  rintro e w1 ⟨A1, c1, rfl, hP1⟩
  have hS1 := HS0.out.below hP1.below_
  go_wp2_with (first
    | (at_builtin
       refine wpList_app rfl (.tmp 9) (.tmp 12) 26 rfl sByte hS1 0 (n := n) rfl rfl rfl (hP1.rd_ 0 rfl) (bys_one N) (by have := HNL.out; omega) ?_
       intro A2 c2 w2 hS2 hC2))
  have HS2 := hide (show Sep F w w2 [rowI 5 1 A2 (n + N.length) c2 (bys (xs ++ N))] from by rw [bys_app]; exact hS2)
  clear hS2 hP1 C1 HS0 hS1
  go_loopw [0, 8, 16] (fun s0 _ i wr => ∃ (k : Nat) (A' : Option Addr) (m c' : Nat), k ≤ nL ∧ i = .int .i64 k ∧ s0 = .slice A' m c' ∧ Hid (m ≤ n + 11 + 12 * k) ∧ Sep F w wr [rowI 5 1 A' m c' (bys (xs ++ N ++ (l.take k).flatMap valB))]) (fun _ _ i _ => nL - (intOf i).toNat)
  case atStart => exact ⟨0, A2, n + N.length, c2, by omega, rfl, rfl, by have := HNL.out; show _ ≤ _; omega, by simpa using HS2.out⟩
  case round =>
    clear HS2
    obtain ⟨k, A', m, c', hk, rfl, rfl, hm, hS⟩ := hrel
    by_cases hlt : k < nL
    · have hkl : k < l.length := by rw [HLL.out]; exact hlt
      obtain ⟨ad, hA, _, had, hc, hd⟩ := (hl.chg hS.bel (fun _ h h' => h' h)).atN hlt
      obtain ⟨v0, v1⟩ := vals_at l k hkl
      have e0 := hc _ v0
      have e1 := hd 0 _ v1
      have HT := hide (List.take_succ_eq_append_getElem hkl)
      have hvk := HV.out _ (List.getElem_mem hkl)
      obtain ⟨x, hx⟩ : ∃ x, l[k] = x := ⟨_, rfl⟩
      rw [hx] at e0 e1 HT hvk
      subst hA
      clear hc hd v0 v1 hx
      obtain ⟨q, z⟩ := x
      dsimp only at e0 e1
      have HVL := hide (valB_len' (q, z))
      go_wp2_with fail
      refine (value_any _ A' m c' _ q z (by have := hm.out; omega) hvk.1 hvk.2 ((hS.alloc _).get 0 rfl)).mono ?_
      rintro e w3 ⟨A3, c3, rfl, hP3⟩
      have hS3 := (hS.alloc _).call 0 rfl hP3
      go_wp2_with fail
      go_roundw
      case rel =>
        refine ⟨k + 1, A3, _, c3, by omega, by go_num, rfl, ?_, ?_⟩
        · have := HVL.out; have := hm.out; show _ ≤ _; omega
        · rw [HT.out, flat_snoc, ← List.append_assoc]; exact hS3
      case measure => simp [intOf]; omega
    · obtain rfl : k = nL := by omega
      rw [show l.take k = l from List.take_of_length_le (by rw [HLL.out]; omega), List.append_assoc, ← HVB.out] at hS
      obtain rfl : m = n + (valsB l).length := by have := bys_row hS 0 rfl; rw [List.length_append, HXL.out] at this; exact this.symm
      go_wp2_with fail
      go_ret
      exact ⟨A', c', rfl, hS⟩
end Go.Proofs.Ytaajkldhnjoicaa

namespace Go.Proofs.Ytaajkldhnjoicaa
open Go.RowKit

def objsB (obs : List Ob) : List Int := numB obs.length ++ obs.flatMap fun o => valsB o.fields
def graphB (obs : List Ob) (roots : List Val) : List Int := valsB roots ++ objsB obs
def textB (obs : List Ob) (roots : List Val) : List Int := graphB obs roots ++ [chk (graphB obs roots) % 256, chk (graphB obs roots) / 256]
def ObsOk (obs : List Ob) : Prop := ∀ o ∈ obs, o.n ≤ 1000 ∧ ∀ v ∈ o.fields, ValOk v
theorem flatB_len {α : Type} (l : List α) (f : α → List Int) (b : Nat) (h : ∀ x ∈ l, (f x).length ≤ b) : (l.flatMap f).length ≤ b * l.length := by
  induction l with
  | nil => simp
  | cons a l ih =>
    have h1 := h a (by simp)
    have h2 := ih (fun x hx => h x (by simp [hx]))
    rw [List.flatMap_cons, List.length_append, List.length_cons, Nat.mul_add]
    omega
theorem valsB_len (l : List Val) : (valsB l).length ≤ 11 + 12 * l.length := by
  unfold valsB
  have := numB_len l.length
  have := flatB_len l valB 12 (fun v _ => valB_len' v)
  rw [List.length_append]
  omega
theorem valB_byte (v : Val) (h : ValOk v) : ∀ b ∈ valB v, 0 ≤ b ∧ b ≤ 255 := by
  intro b hb
  unfold valB at hb
  rcases List.mem_cons.1 hb with rfl | hb
  · split <;> omega
  · exact numB_byte v.2 h.1 h.2 b hb
theorem valsB_byte (l : List Val) (hl : l.length ≤ 1000) (h : ∀ v ∈ l, ValOk v) : ∀ b ∈ valsB l, 0 ≤ b ∧ b ≤ 255 := by
  intro b hb
  unfold valsB at hb
  rcases List.mem_append.1 hb with hb | hb
  · exact numB_byte _ (by omega) (by omega) b hb
  · obtain ⟨v, hv, hb⟩ := List.mem_flatMap.1 hb
    exact valB_byte v (h v hv) b hb
theorem graphB_byte {w : World} {D : Nat → Prop} {AO : Option Addr} {nO : Nat} (obs : List Ob) (roots : List Val) (hO : ObsRd w D AO nO obs) (h1 : nO ≤ 1000) (h2 : roots.length ≤ 1000) (hr : ∀ v ∈ roots, ValOk v) (ho : ObsOk obs) : ∀ b ∈ graphB obs roots, 0 ≤ b ∧ b ≤ 255 := by
  intro b hb
  unfold graphB objsB at hb
  rcases List.mem_append.1 hb with hb | hb
  · exact valsB_byte roots h2 hr b hb
  rcases List.mem_append.1 hb with hb | hb
  · exact numB_byte _ (by omega) (by have := hO.len; omega) b hb
  · obtain ⟨o, hom, hb⟩ := List.mem_flatMap.1 hb
    exact valsB_byte o.fields (by have := hO.flen hom; have := (ho o hom).1; omega) (ho o hom).2 b hb

set_option maxRecDepth 100000 in
set_option maxHeartbeats 4000000 in
theorem obj_any (w : World) (A : Option Addr) (n c : Nat) (xs : List Int) (o : Ob) (hn : n ≤ 100000) (hnl : o.n ≤ 1000) (hs : (rowI 5 1 A n c (bys xs)).P w) (hl : Rd w (fun g => ¬ (rowI 5 1 A n c (bys xs)).fp g) 2 o.A o.n (vals o.fields)) (hv : ∀ v ∈ o.fields, ValOk v) :
    Calls Try.prog 117 #[.slice A n c, .agg #[o.val]] w fun e w' => ∃ A' c', e = .returned (.slice A' (n + (valsB o.fields).length) c') ∧ Sep (rowI 5 1 A n c (bys xs)).fp w w' [rowI 5 1 A' (n + (valsB o.fields).length) c' (bys (xs ++ valsB o.fields))] := by
  have hS := (Sep.start hs).blkAt 83 #[o.val] rfl
  have hB0 : Below w.heap.size w (w.alloc (.cells #[o.val] 83)) := (Below.refl _ w).alloc (Nat.le_refl _) _
  have C := hide (listV_any (w.alloc (.cells #[o.val] 83)) A o.A n c o.n o.c xs o.fields hn hnl (hS.get 0 rfl) (hl.below hB0) hv)
  have HS := hide hS
  unfold Ob.val at *
  clear hs hl hB0 hS
  go_enter Try.func117, Try.ntmps117
  go_wp2_with fail
  refine C.out.mono ?_
  rintro e w3 ⟨A3, c3, rfl, hP3⟩
  have hS3 := (HS.out.call 0 rfl hP3).sub (List.take_sublist 1 _)
  go_wp2_with fail
  go_ret
  exact ⟨A3, c3, rfl, hS3⟩

set_option maxRecDepth 100000 in
set_option maxHeartbeats 4000000 in
theorem listO_any (w : World) (A AL : Option Addr) (n c nL cL : Nat) (xs : List Int) (obs : List Ob) (hn : n ≤ 1000) (hnl : nL ≤ 24) (hs : (rowI 5 1 A n c (bys xs)).P w) (hl : ObsRd w (fun g => ¬ (rowI 5 1 A n c (bys xs)).fp g) AL nL obs) (hv : ∀ o ∈ obs, o.n ≤ 4 ∧ ∀ v ∈ o.fields, ValOk v) :
    Calls Try.prog 116 #[.slice A n c, .slice AL nL cL, .func (.func 117) #[] #[]] w fun e w' => ∃ A' c', e = .returned (.slice A' (n + (objsB obs).length) c') ∧ Sep (rowI 5 1 A n c (bys xs)).fp w w' [rowI 5 1 A' (n + (objsB obs).length) c' (bys (xs ++ objsB obs))] := by
  have HLL := hide hl.len
  have HV := hide hv
  have HFL := hide (fun o ho => hl.flen (o := o) ho)
  obtain ⟨F, hF⟩ : ∃ F, (rowI 5 1 A n c (bys xs)).fp = F := ⟨_, rfl⟩
  have HS0 := hide (Sep.start hs)
  have HXL := hide (bys_row (Sep.start hs) 0 rfl)
  rw [hF] at HS0 hl ⊢
  have hl := hl.more (D' := fun g => g < w.heap.size ∧ ¬ F g) (fun k hk h => ⟨hk, h⟩)
  have C1 := hide (numP_any w nL (by omega) (by omega))
  have HNL := hide (numB_len nL)
  have HVB := hide (show objsB obs = numB nL ++ obs.flatMap fun o => valsB o.fields by unfold objsB; rw [HLL.out])
  generalize numB nL = N at C1 HNL HVB
  clear hF hs hv
  go_enter Try.func116, Try.ntmps116
  go_wp2_with fail
  refine C1.out.mono ?_
  rintro e w1 ⟨A1, c1, rfl, hP1⟩
  have hS1 := HS0.out.below hP1.below_
  go_wp2_with (first
    | (at_builtin
       refine wpList_app rfl (.tmp 9) (.tmp 12) 26 rfl sByte hS1 0 (n := n) rfl rfl rfl (hP1.rd_ 0 rfl) (bys_one N) (by have := HNL.out; omega) ?_
       intro A2 c2 w2 hS2 hC2))
  have HS2 := hide (show Sep F w w2 [rowI 5 1 A2 (n + N.length) c2 (bys (xs ++ N))] from by rw [bys_app]; exact hS2)
  clear hS2 hP1 C1 HS0 hS1
  go_loopw [0, 8, 16] (fun s0 _ i wr => ∃ (k : Nat) (A' : Option Addr) (m c' : Nat), k ≤ nL ∧ i = .int .i64 k ∧ s0 = .slice A' m c' ∧ Hid (m ≤ n + 11 + 60 * k) ∧ Sep F w wr [rowI 5 1 A' m c' (bys (xs ++ N ++ (obs.take k).flatMap fun o => valsB o.fields))]) (fun _ _ i _ => nL - (intOf i).toNat)
  case atStart => exact ⟨0, A2, n + N.length, c2, by omega, rfl, rfl, by have := HNL.out; show _ ≤ _; omega, by simpa using HS2.out⟩
  case round =>
    clear HS2
    obtain ⟨k, A', m, c', hk, rfl, rfl, hm, hS⟩ := hrel
    by_cases hlt : k < nL
    · have hkl : k < obs.length := by rw [HLL.out]; exact hlt
      have hO := hl.chg hS.bel (fun _ h h' => h'.2 h)
      obtain ⟨ad, hA, _, had, hc⟩ := hO.row.at_ hlt
      have e0 := hc obs[k].val (by simp [List.getElem?_eq_getElem hkl])
      have HT := hide (List.take_succ_eq_append_getElem hkl)
      have hvk := HV.out _ (List.getElem_mem hkl)
      have hfl := HFL.out _ (List.getElem_mem hkl)
      have hE := hO.each _ (List.getElem_mem hkl)
      obtain ⟨o, ho⟩ : ∃ o, obs[k] = o := ⟨_, rfl⟩
      rw [ho] at e0 HT hvk hE hfl
      have hVL := valsB_len o.fields
      have HVL := hide (show (valsB o.fields).length ≤ 59 by have := hvk.1; omega)
      have hE2 := (hE.more (D' := fun g => ¬ (rowI 5 1 A' m c' (bys (xs ++ N ++ (obs.take k).flatMap fun o => valsB o.fields))).fp g) (fun g hg hn hf => by
        rcases hS.lo 0 rfl g hf with h1 | h1
        · exact hn.2 h1
        · have := hn.1; omega))
      have hB0 : Below wr.heap.size wr (wr.alloc (.cells #[o.val] 83)) := (Below.refl _ wr).alloc (Nat.le_refl _) _
      have C := hide (obj_any (wr.alloc (.cells #[o.val] 83)) A' m c' _ o (by have := hm.out; omega) (by omega) ((hS.alloc _).get 0 rfl) (hE2.below hB0) hvk.2)
      subst hA
      unfold Ob.val at *
      clear hc ho hE hE2 hB0 hVL hfl hO
      go_wp2_with fail
      refine C.out.mono ?_
      rintro e w3 ⟨A3, c3, rfl, hP3⟩
      have hS3 := (hS.alloc _).call 0 rfl hP3
      go_wp2_with fail
      go_roundw
      case rel =>
        refine ⟨k + 1, A3, _, c3, by omega, by go_num, rfl, ?_, ?_⟩
        · have := HVL.out; have := hm.out; show _ ≤ _; omega
        · rw [HT.out, flat_snoc, ← List.append_assoc]; exact hS3
      case measure => simp [intOf]; omega
    · obtain rfl : k = nL := by omega
      rw [show obs.take k = obs from List.take_of_length_le (by rw [HLL.out]; omega), List.append_assoc, ← HVB.out] at hS
      obtain rfl : m = n + (objsB obs).length := by have := bys_row hS 0 rfl; rw [List.length_append, HXL.out] at this; exact this.symm
      go_wp2_with fail
      go_ret
      exact ⟨A', c', rfl, hS⟩
end Go.Proofs.Ytaajkldhnjoicaa

namespace Go.Proofs.Ytaajkldhnjoicaa
open Go.RowKit

theorem rd_news (w : World) (e : TypeId) (cs : Array Value) : Rd (w.alloc (.cells cs e)) (fun _ => True) 1 (some ⟨w.heap.size, 0, none⟩) cs.size cs.toList :=
  ⟨by simp, fun _ => ⟨_, rfl, trivial, by simp, fun j u hu => by
    have h := (Blk.new w e cs).cell j
    unfold Addr.add
    split
    · rename_i hj
      subst hj
      rw [h]; simpa using hu
    · rw [show (⟨w.heap.size, 0 + j, none⟩ : Addr) = ⟨w.heap.size, j, none⟩ from by simp, h]; simpa using hu⟩⟩
theorem objsB_len {w : World} {D : Nat → Prop} {AO : Option Addr} {nO : Nat} (obs : List Ob) (hO : ObsRd w D AO nO obs) (h : ∀ o ∈ obs, o.n ≤ 4) : (objsB obs).length ≤ 11 + 60 * obs.length := by
  unfold objsB
  have := numB_len obs.length
  have := flatB_len obs (fun o => valsB o.fields) 60 (fun o ho => by
    have := valsB_len o.fields
    have := hO.flen ho
    have := h o ho
    show (valsB o.fields).length ≤ 60
    omega)
  rw [List.length_append]
  omega

set_option maxRecDepth 100000 in
set_option maxHeartbeats 4000000 in
theorem bytesOf_any (w : World) (AO AR : Option Addr) (nO cO nR cR : Nat) (obs : List Ob) (roots : List Val) (hO : ObsRd w (fun _ => True) AO nO obs) (hR : Rd w (fun _ => True) 2 AR nR (vals roots)) (h1 : nO ≤ 24) (h2 : nR ≤ 8) (hv : ∀ o ∈ obs, o.n ≤ 4 ∧ ∀ v ∈ o.fields, ValOk v) (hvr : ∀ v ∈ roots, ValOk v) :
    Calls Try.prog 62 #[.agg #[.slice AO nO cO, .slice AR nR cR]] w fun e w' => ∃ A c, e = .returned (.slice A (textB obs roots).length c) ∧ Sep No w w' [rowI 5 1 A (textB obs roots).length c (bys (textB obs roots))] := by
  have hrl : roots.length = nR := by have := hR.1; rw [vals_length] at this; omega
  have hS0 := ((Sep.nil No w).blkAt 25 #[.slice AO nO cO, .slice AR nR cR] rfl).nilRow0 5 1
  have hB0 : Below w.heap.size w (w.alloc (.cells #[.slice AO nO cO, .slice AR nR cR] 25)) := (Below.refl _ w).alloc (Nat.le_refl _) _
  have C1 := hide (listV_any _ none AR 0 0 nR cR [] roots (by omega) (by omega) (hS0.get 0 rfl) ((hR.below hB0).more (fun g _ _ h => by simp [rowI, Value.ownBlock] at h)) hvr)
  have HVL := hide (show (valsB roots).length ≤ 107 by have := valsB_len roots; omega)
  have HOL := hide (show (objsB obs).length ≤ 1500 by have := objsB_len obs hO (fun o ho => (hv o ho).1); have := hO.len; omega)
  have HBY := hide (graphB_byte obs roots hO (by omega) (by omega) hvr (fun o ho => ⟨by have := (hv o ho).1; omega, (hv o ho).2⟩))
  have HG := hide (show graphB obs roots = valsB roots ++ objsB obs from rfl)
  have HT := hide (show textB obs roots = graphB obs roots ++ [chk (graphB obs roots) % 256, chk (graphB obs roots) / 256] from rfl)
  have C2 := hide (fun w' (hb : Below w.heap.size w w') A n c xs hn hs hl => listO_any w' A AO n c nO cO xs obs hn h1 hs (((hO.more (D' := fun g => g < w.heap.size) (fun g hg _ => hg)).below hb).more hl) hv)
  rw [List.nil_append, Nat.zero_add] at C1
  generalize valsB roots = V at *
  generalize objsB obs = O at *
  generalize graphB obs roots = G at *
  generalize textB obs roots = T at *
  have HS0 := hide hS0
  have HB0 := hide hB0
  obtain ⟨a1, a2, a3, a4⟩ := hS0.rules 1 rfl
  clear hS0 hB0 hO hR hv hvr hrl
  go_enter Try.func62, Try.ntmps62
  go_wp2_with fail
  refine C1.out.mono ?_
  rintro e w1 ⟨A1, c1, rfl, hP1⟩
  have hS1 := HS0.out.call 0 rfl hP1
  have hb1 : Below w.heap.size w w1 := hS1.below_
  have HC2 := hide (C2.out w1 hb1 A1 V.length c1 V (by have := HVL.out; omega) (hS1.get 0 rfl) (fun g _ hg hf => by
    rcases hS1.lo 0 rfl g hf with h | h
    · exact h
    · omega))
  obtain ⟨b1, b2, b3, b4⟩ := hS1.rules 1 (g := w.heap.size) (t := 25) rfl
  clear a1 a2 a3 a4 hP1 C1 C2
  go_wp2_with fail
  refine HC2.out.mono ?_
  rintro e w2 ⟨A2, c2, rfl, hP2⟩
  have hS2 := hS1.call 0 rfl hP2
  rw [← HG.out] at hS2
  have hGL : V.length + O.length = G.length := by rw [HG.out, List.length_append]
  rw [hGL] at hS2 ⊢
  have HGL := hide hGL
  have hgn : G.length ≤ 2000 := by have := HVL.out; have := HOL.out; omega
  obtain ⟨r1, r2⟩ := chk_range G
  have HC3 := hide (sumP_any w2 _ A2 G.length c2 G (by omega) (hS2.rd_ 0 rfl) HBY.out)
  have HTL := hide (show G.length + 2 = T.length by rw [HT.out, List.length_append]; rfl)
  obtain ⟨x, hx⟩ : ∃ x, chk G = x := ⟨_, rfl⟩
  rw [hx] at HC3 HT r1 r2
  clear b1 b2 b3 b4 HC2 hP2 hS1 hb1 HBY HG hx hGL
  go_wp2_with fail
  refine HC3.out.mono ?_
  rintro e w3 ⟨rfl, rfl⟩
  have k1 : IntKind.u8.wrap x = x % 256 := by rw [IntKind.wrap_u8]
  have k2 : IntKind.u8.wrap (x / 256) = x / 256 := by rw [IntKind.wrap_u8]; omega
  go_wp2_with (first
    | (at_builtin
       refine wpList_app rfl (.tmp 14) (.tmp 20) 26 rfl sByte (hS2.alloc _) 0 (n := G.length) rfl rfl rfl (rd_news _ 5 #[.int .u8 (x % 256), .int .u8 (x / 256)]) (bys_one [x % 256, x / 256]) (by simp; omega) ?_
       intro A4 c4 w4 hS4 hC4))
  go_ret
  have hS5 := hS4.sub (List.take_sublist 1 _)
  rw [← HTL.out]
  refine ⟨A4, c4, rfl, ?_⟩
  rw [HT.out, bys_app]
  exact hS5

set_option maxRecDepth 100000 in
set_option maxHeartbeats 4000000 in
theorem put_bad (w : World) (AO AR : Option Addr) (nO cO nR cR : Nat) (obs : List Ob) (roots : List Val) (hO : ObsRd w (fun _ => True) AO nO obs) (hR : Rd w (fun _ => True) 2 AR nR (vals roots)) (hz : gcheck nO nR obs roots ≠ 0) :
    Calls Try.prog 15 #[.agg #[.slice AO nO cO, .slice AR nR cR]] w fun e w' => e = .returned (.tuple #[.slice none 0 0, .int .i64 (gcheck nO nR obs roots)]) ∧ Below w.heap.size w w' := by
  have hB0 : Below w.heap.size w (w.alloc (.cells #[.slice AO nO cO, .slice AR nR cR] 25)) := (Below.refl _ w).alloc (Nat.le_refl _) _
  have C1 := hide (graphCheck_any _ AO AR nO cO nR cR obs roots (hO.below hB0) (hR.below hB0))
  obtain ⟨x, hx⟩ : ∃ x, gcheck nO nR obs roots = x := ⟨_, rfl⟩
  rw [hx] at C1 hz ⊢
  have y1 : (x != 0) = true := by rw [bne_iff_ne]; exact hz
  have HB0 := hide hB0
  obtain ⟨a1, a2, a3⟩ := (Blk.new w 25 #[.slice AO nO cO, .slice AR nR cR]).rules
  clear hz hx hB0
  go_enter Try.func15, Try.ntmps15
  go_wp2_with fail
  refine C1.out.mono ?_
  rintro e w1 ⟨rfl, hb1⟩
  go_wp2_with fail
  go_ret2
  exact ⟨rfl, HB0.out.trans (hb1.mono HB0.out.size)⟩

/-- What the check says of each number. -/
theorem gvals_ok {w : World} {D : Nat → Prop} {AO : Option Addr} {nO nR : Nat} {obs : List Ob} {roots : List Val} (hO : ObsRd w D AO nO obs) (h : gcheck nO nR obs roots = 0) : (∀ v ∈ roots, ValOk v) ∧ ∀ o ∈ obs, o.n ≤ 4 ∧ ∀ v ∈ o.fields, ValOk v := by
  have hG := gok_of hO h
  have key : ∀ v ∈ allVals obs roots, ValOk v := fun v hv => by
    unfold gcheck at h
    split at h
    · omega
    rename_i h1
    split at h
    · omega
    rename_i h2
    split at h
    · omega
    rename_i h3
    have h4 := List.any_eq_false.1 (Bool.eq_false_iff.2 h2) v hv
    have h5 := List.any_eq_false.1 (Bool.eq_false_iff.2 h3) v hv
    obtain ⟨q, z⟩ := v
    unfold badArg at h4
    unfold badRange at h5
    have := hG.nO_
    unfold ValOk
    cases q <;> simp at h4 h5 ⊢ <;> omega
  exact ⟨fun v hv => key v (List.mem_append_left _ hv), fun o ho => ⟨hG.fl o ho, fun v hv => key v (List.mem_append_right _ (List.mem_flatMap.2 ⟨o, ho, hv⟩))⟩⟩

set_option maxRecDepth 100000 in
set_option maxHeartbeats 4000000 in
theorem put_ok (w : World) (AO AR : Option Addr) (nO cO nR cR : Nat) (obs : List Ob) (roots : List Val) (hO : ObsRd w (fun _ => True) AO nO obs) (hR : Rd w (fun _ => True) 2 AR nR (vals roots)) (hz : gcheck nO nR obs roots = 0) :
    Calls Try.prog 15 #[.agg #[.slice AO nO cO, .slice AR nR cR]] w fun e w' => ∃ A c, e = .returned (.tuple #[.slice A (textB obs roots).length c, .int .i64 0]) ∧ Sep No w w' [rowI 5 1 A (textB obs roots).length c (bys (textB obs roots))] := by
  have hB0 : Below w.heap.size w (w.alloc (.cells #[.slice AO nO cO, .slice AR nR cR] 25)) := (Below.refl _ w).alloc (Nat.le_refl _) _
  have C1 := hide (graphCheck_any _ AO AR nO cO nR cR obs roots (hO.below hB0) (hR.below hB0))
  have hG := gok_of hO hz
  obtain ⟨v1, v2⟩ := gvals_ok hO hz
  have C2 := hide (fun w' (hb : Below w.heap.size w w') => bytesOf_any w' AO AR nO cO nR cR obs roots (hO.below hb) (hR.below hb) hG.nO_ hG.nR_ v2 v1)
  rw [hz] at C1
  have HB0 := hide hB0
  have BA := hide (Blk.new w 25 #[.slice AO nO cO, .slice AR nR cR])
  obtain ⟨a1, a2, a3⟩ := BA.out.rules
  generalize textB obs roots = T at *
  clear hz hB0 hG v1 v2
  go_enter Try.func15, Try.ntmps15
  go_wp2_with fail
  refine C1.out.mono ?_
  rintro e w1 ⟨rfl, hb1⟩
  have HB1 := hide (HB0.out.trans (hb1.mono HB0.out.size))
  obtain ⟨b1, b2, b3⟩ := (BA.out.below_ hb1).rules
  clear hb1 a1 a2 a3
  go_wp2_with fail
  refine (C2.out _ HB1.out).mono ?_
  rintro e w2 ⟨A2, c2, rfl, hP2⟩
  have hS2 := sepNew ((Sep.nil No w).below HB1.out) hP2
  go_wp2_with fail
  go_ret2
  exact ⟨A2, c2, rfl, hS2⟩
end Go.Proofs.Ytaajkldhnjoicaa
