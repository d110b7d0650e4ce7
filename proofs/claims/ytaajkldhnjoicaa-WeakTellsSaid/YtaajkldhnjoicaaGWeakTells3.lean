/- Weak references: the program's Clear. Weak references: the program's Clear, of what may be. Weak references: the reference's Clear. -/
import Derived.Test.YtaajkldhnjoicaaGWeakTells2
import Derived.Test.YtaajkldhnjoicaaGGraphCanons0
import Derived.Deep.DeepCutAuto
set_option linter.unusedSimpArgs false
set_option linter.unusedVariables false
namespace Go.Proofs.Ytaajkldhnjoicaa
open Go.RowKit Go.Shelf

def clearP (ks : List Int) (p : Nat → Bool) (i : Nat) (f : List Val) (j : Nat) : List Val := (f.take j).map (clearV ks p i f) ++ f.drop j
section
variable {ks : List Int} {p : Nat → Bool} {i : Nat} {f : List Val}
theorem clearP_zero : clearP ks p i f 0 = f := by simp [clearP]
theorem clearP_all : clearP ks p i f f.length = clearF ks p i f := by simp [clearP, clearF]
theorem clearP_len (j : Nat) : (clearP ks p i f j).length = f.length := by
  unfold clearP
  rw [List.length_append, List.length_map, ← List.length_append, List.take_append_drop]
theorem clearP_split {j : Nat} (hj : j < f.length) : clearP ks p i f j = (f.take j).map (clearV ks p i f) ++ f[j] :: f.drop (j + 1) := by
  unfold clearP
  rw [List.drop_eq_getElem_cons hj]
theorem clearP_next {j : Nat} (hj : j < f.length) : clearP ks p i f (j + 1) = (f.take j).map (clearV ks p i f) ++ clearV ks p i f f[j] :: f.drop (j + 1) := by
  unfold clearP
  rw [List.take_succ_eq_append_getElem hj, List.map_append]
  simp
theorem clearP_get {j : Nat} (hj : j < f.length) (hj2 : j < (clearP ks p i f j).length) : (clearP ks p i f j)[j] = f[j] := by
  have hl : ((f.take j).map (clearV ks p i f)).length = j := by rw [List.length_map, List.length_take]; omega
  have h : (clearP ks p i f j)[j]? = some f[j] := by
    rw [clearP_split hj, List.getElem?_append_right (by omega), hl, Nat.sub_self]; rfl
  rw [List.getElem?_eq_getElem hj2] at h
  injection h
theorem clearP_set {j : Nat} (hj : j < f.length) : (clearP ks p i f j).set j (clearV ks p i f f[j]) = clearP ks p i f (j + 1) := by
  have hl : ((f.take j).map (clearV ks p i f)).length = j := by rw [List.length_map, List.length_take]; omega
  rw [clearP_split hj, clearP_next hj, List.set_append_right _ _ (by omega), hl, Nat.sub_self]
  rfl
theorem clearP_same {j : Nat} (hj : j < f.length) (h : clearV ks p i f f[j] = f[j]) : clearP ks p i f (j + 1) = clearP ks p i f j := by
  rw [clearP_split hj, clearP_next hj, h]
theorem vals_set2 (l : List Val) (j : Nat) (b : Bool) (m : Int) : ((vals l).set (j * 2) (.bool b)).set (j * 2 + 1) (.int .i64 m) = vals (l.set j (b, m)) := by
  unfold vals
  induction l generalizing j with
  | nil => rfl
  | cons a l ih =>
    cases j with
    | zero => rfl
    | succ j =>
      rw [List.flatMap_cons, show (j + 1) * 2 = j * 2 + 1 + 1 from by omega, show j * 2 + 1 + 1 + 1 = (j * 2 + 1) + 1 + 1 from by omega]
      simp only [List.cons_append, List.nil_append, List.set_cons_succ, List.flatMap_cons]
      rw [ih]
end
def clearAll (gs : List (List Val)) (ks : List Int) (p : Nat → Bool) (n : Nat) : List (List Val) := (List.range n).map fun i => clearF ks p i (fieldsI gs (i : Int))
theorem clearAll_take (gs : List (List Val)) (ks : List Int) (p : Nat → Bool) (n k : Nat) (h : k < n) : (clearAll gs ks p n).take (k + 1) = (clearAll gs ks p n).take k ++ [clearF ks p k (fieldsI gs (k : Int))] := by
  have h2 : k < (clearAll gs ks p n).length := by simp [clearAll]; exact h
  rw [List.take_succ_eq_append_getElem h2]
  simp [clearAll]

section
variable (w : World) (AO AR AK : Option Addr) (nO cO nR cR nK cK : Nat) (obs : List Ob) (roots : List Val) (ks : List Int)
set_option maxRecDepth 100000 in
set_option maxHeartbeats 4000000 in
theorem wclear_bad (hO : ObsRd w (fun _ => True) AO nO obs) (hR : Rd w (fun _ => True) 2 AR nR (vals roots)) (hK : Rd w (fun _ => True) 1 AK nK (ints ks)) (hz : wkErr nO nR nK obs roots ks ≠ 0) :
    Calls Try.prog 48 #[.agg #[.slice AO nO cO, .slice AR nR cR], .slice AK nK cK] w fun e w' => e = .returned (.tuple #[.agg #[.slice none 0 0, .slice none 0 0], .int .i64 (wkErr nO nR nK obs roots ks)]) ∧ Below w.heap.size w w' := by
  have hS0 := ((Sep.nil No w).blkAt 25 #[.slice AO nO cO, .slice AR nR cR] rfl).blkAt 25 #[.slice none 0 0, .slice none 0 0] (g := w.heap.size + 1) (by simp)
  obtain ⟨a1, a2, a3, a4⟩ := hS0.rules 0 (g := w.heap.size) (t := 25) rfl
  have a5 := (a1 0).trans (show _ = some (.slice AO nO cO) from rfl)
  have a6 := (a1 1).trans (show _ = some (.slice AR nR cR) from rfl)
  have C1 := hide (wopen_bad _ AO AR AK nO cO nR cR nK cK obs roots ks (hO.below hS0.below_) (hR.below hS0.below_) (hK.below hS0.below_) hz)
  obtain ⟨x, hx⟩ : ∃ x, wkErr nO nR nK obs roots ks = x := ⟨_, rfl⟩
  rw [hx] at C1 hz ⊢
  have y1 : (x != 0) = true := by rw [bne_iff_ne]; exact hz
  have HS0 := hide hS0
  clear hz hx hS0 a1 a4 hO hR hK
  go_enter Try.func48, Try.ntmps48
  go_wp2_with fail
  refine C1.out.mono ?_
  rintro e w1 ⟨rfl, hb1⟩
  have hS1 := HS0.out.below hb1
  obtain ⟨y1, y2, y3, y4⟩ := hS1.rules 1 (g := w.heap.size + 1) (t := 25) rfl
  have y5 := (y1 0).trans (show _ = some (.slice none 0 0) from rfl)
  have y6 := (y1 1).trans (show _ = some (.slice none 0 0) from rfl)
  have y7 := y2 0
  have y8 := y2 1
  have HS1 := hide hS1
  clear hS1 HS0 hb1
  go_wp2_with fail
  have hF := (HS1.out.set_ 1 (g := w.heap.size + 1) (t := 25) rfl 0 (.slice none 0 0)).set_ 1 (g := w.heap.size + 1) (t := 25) rfl 1 (.slice none 0 0)
  refine bodyPost_ret (v := .tuple #[.agg #[.slice none 0 0, .slice none 0 0], .int .i64 x]) ?_ rfl ⟨rfl, hF.below_⟩
  simp [results, Try.results48, go_sem, y1]
end
end Go.Proofs.Ytaajkldhnjoicaa

namespace Go.Proofs.Ytaajkldhnjoicaa
open Go.RowKit Go.Shelf

def deadB (ks : List Int) (p : Nat → Bool) (i : Nat) (f : List Val) : Bool := decide (ksA ks i = 2) && (decide (0 < f.length) && !headAl p f)
theorem clearV_eq {ks : List Int} {p : Nat → Bool} {i : Nat} {f : List Val} {v : Val} (h : v ∈ f) : clearV ks p i f v = if (deadB ks p i f || (decide (ksA ks i = 1) && !aliveB p v)) = true then (false, 0) else v := by
  have hl : 0 < f.length := List.length_pos_of_mem h
  unfold clearV deadB
  by_cases h1 : ksA ks i = 1
  · cases ha : aliveB p v <;> simp [h1, hl]
  · by_cases h2 : ksA ks i = 2
    · cases ha : headAl p f <;> simp [h2, hl]
    · simp [h1, h2]
theorem head_get {p : Nat → Bool} {f : List Val} (h : 0 < f.length) : headAl p f = aliveB p f[0] := by
  cases f with
  | nil => simp at h
  | cons a t => rfl
theorem filt_rng {p : Nat → Bool} {n : Nat} : ∀ x ∈ filt p n, 0 ≤ x ∧ x < (n : Int) := fun x hx => by
  unfold filt at hx
  obtain ⟨i, hi, rfl⟩ := List.mem_map.1 hx
  have := List.mem_range.1 (List.mem_filter.1 hi).1
  omega
theorem filt_nodup {p : Nat → Bool} {n : Nat} : (filt p n).Nodup := by
  unfold filt
  rw [List.nodup_iff_pairwise_ne, List.pairwise_map]
  exact ((List.nodup_iff_pairwise_ne.1 List.nodup_range).filter p).imp fun h => by omega
theorem filt_len {p : Nat → Bool} {n : Nat} : (filt p n).length ≤ n := by
  unfold filt
  rw [List.length_map]
  have := List.length_filter_le p (List.range n)
  simpa using this
theorem clearAll_len (gs : List (List Val)) (ks : List Int) (p : Nat → Bool) (n : Nat) : (clearAll gs ks p n).length = n := by simp [clearAll]
theorem clearF_len {ks : List Int} {p : Nat → Bool} {i : Nat} {f : List Val} : (clearF ks p i f).length = f.length := by simp [clearF]
theorem clearF_ok {ks : List Int} {p : Nat → Bool} {i n : Nat} {f : List Val} (h : ValsOk n f) : ValsOk n (clearF ks p i f) := fun v hv => by
  unfold clearF at hv
  obtain ⟨u, hu, rfl⟩ := List.mem_map.1 hv
  intro h1
  unfold clearV at h1 ⊢
  split at h1
  · cases h1
  · rename_i h2
    rw [if_neg h2]
    exact h u hu h1
theorem clearAll_ok {gs : List (List Val)} {ks : List Int} {p : Nat → Bool} {n : Nat} (hv : ∀ x : Int, ValsOk n (fieldsI gs x)) : ∀ fs ∈ clearAll gs ks p n, ValsOk n fs := fun fs hfs => by
  unfold clearAll at hfs
  obtain ⟨i, _, rfl⟩ := List.mem_map.1 hfs
  exact clearF_ok (hv _)
theorem clearAll_4 {gs : List (List Val)} {ks : List Int} {p : Nat → Bool} {n : Nat} (hf : ∀ x : Int, (fieldsI gs x).length ≤ 4) : ∀ fs ∈ clearAll gs ks p n, fs.length ≤ 4 := fun fs hfs => by
  unfold clearAll at hfs
  obtain ⟨i, _, rfl⟩ := List.mem_map.1 hfs
  rw [clearF_len]; exact hf _
theorem sepNewL {F : Nat → Prop} {W w w' : World} {items l : List Item} (h : Sep F W w items) (h2 : Sep No w w' l) : Sep F W w' (l ++ items) :=
  ((sepNewR h h2.fold).perm (l := allI l :: items) List.perm_append_comm).split
theorem wkM_at {w w' : World} {gb Bt n : Nat} {b : List Bool} {AO AR AK : Option Addr} {nO cO nR cR cK : Nat} {obs : List Ob} {ks : List Int} {items : List Item} (hS : Sep No w w' items) (a c : Nat) (ha : items[a]? = some (wkIt gb n b)) (hc : items[c]? = some (blkI Bt 175 (wkCells gb AO AR AK nO cO nR cR cK))) (hne : a ≠ c) (hO : ObsRd w (fun _ => True) AO nO obs) (hK : Rd w (fun _ => True) 1 AK nO (ints ks)) : WkM Bt gb AO AR AK nO cO nR cR cK obs ks w' := by
  have h3 := (hS.lo a ha gb (wkIt_fp.2 rfl)).resolve_left (fun h => h)
  refine ⟨((hO.more (D' := fun k => k < w.heap.size) (fun k hk _ => hk)).below hS.below_).more (fun k _ hk => by omega), ((hK.more (D' := fun k => k < w.heap.size) (fun k hk _ => hk)).below hS.below_).more (fun k _ hk => by omega), hS.get c hc, fun e => ?_⟩
  exact hS.other (a := a) (b := c) ha hc hne gb (wkIt_fp.2 rfl) e.symm

theorem wraddr0 (g j : Nat) : (⟨g, 0, none⟩ : Addr).add j = ⟨g, j, none⟩ := by
  unfold Addr.add; split <;> simp_all
theorem row_val {w : World} {n c g : Nat} {l : List Val} (h : (rowI 86 2 (some ⟨g, 0, none⟩) n c (vals l)).P w) (j : Nat) (hj : j < n) (hjl : j < l.length) :
    w.cell? ⟨g, j * 2, none⟩ = some (.bool l[j].1) ∧ w.cell? ⟨g, j * 2 + 1, none⟩ = some (.int .i64 l[j].2) ∧ w.frozen? ⟨g, j * 2, none⟩ = false ∧ w.frozen? ⟨g, j * 2 + 1, none⟩ = false := by
  have ho : w.ownsRow 0 86 2 (.slice (some ⟨g, 0, none⟩) n c) n (vals l) := h
  obtain ⟨fd, hA, _, _, hc3, hd3⟩ := (Rd.of_own (D := fun _ => True) ho (fun _ _ => trivial)).atN hj
  obtain rfl : (⟨g, 0, none⟩ : Addr) = fd := by injection hA
  obtain ⟨v0, v1⟩ := vals_at l j hjl
  have e2 := hc3 _ v0
  have e3 := hd3 0 _ v1
  rw [wraddr0] at e2 e3
  exact ⟨e2, e3, ho.frozenAt _, ho.frozenAt _⟩

/-- What Clear has in hand: the new objects so far, and the rest. -/
def ClI (w : World) (go gb Bt : Nat) (b : List Bool) (AO AR AK : Option Addr) (nO cO nR cR cK : Nat) (A' : Option Addr) (k c' : Nat) (obs' : List Ob) : List Item :=
  rowI 83 1 A' k c' (obs'.map Ob.val) :: wkIt gb nO b :: blkI Bt 175 (wkCells gb AO AR AK nO cO nR cR cK) :: blkI w.heap.size 25 #[.slice AO nO cO, .slice AR nR cR] :: blkI (w.heap.size + 1) 25 #[.slice none 0 0, .slice none 0 0] :: blkI go 25 #[.slice A' k c', .slice AR nR cR] :: obs'.map obI

set_option maxRecDepth 100000 in
set_option maxHeartbeats 16000000 in
theorem wclear_ok (w : World) (AO AR AK : Option Addr) (nO cO nR cR cK : Nat) (obs : List Ob) (roots : List Val) (ks : List Int) (gs : List (List Val)) (h3 : obs.map Ob.fields = gs) (hcp : Caps obs) (hO : ObsRd w (fun _ => True) AO nO obs) (hR : Rd w (fun _ => True) 2 AR nR (vals roots)) (hK : Rd w (fun _ => True) 1 AK nO (ints ks)) (hz : wkErr nO nR nO obs roots ks = 0) :
    Calls Try.prog 48 #[.agg #[.slice AO nO cO, .slice AR nR cR], .slice AK nO cK] w fun e w' => ∃ v' p, e = .returned (.tuple #[v', .int .i64 0]) ∧ Kpt gs ks roots nO p ∧ Below w.heap.size w w' ∧ GraphRd w' (fun g => w.heap.size ≤ g) v' (renumF (clearAll gs ks p nO) (filt p nO)) (roots.map (turnL (filt p nO))) := by
  have hG := gok_of hO (wkErr_zero hz).1
  have hn := hG.nO_
  have hkl : ks.length = nO := by have := hK.1; simpa using this
  have hS0 := ((Sep.nil No w).blkAt 25 #[.slice AO nO cO, .slice AR nR cR] rfl).blkAt 25 #[.slice none 0 0, .slice none 0 0] (g := w.heap.size + 1) (by simp)
  obtain ⟨a1, a2, a3, a4⟩ := hS0.rules 0 (g := w.heap.size) (t := 25) rfl
  have a5 := (a1 0).trans (show _ = some (.slice AO nO cO) from rfl)
  have a6 := (a1 1).trans (show _ = some (.slice AR nR cR) from rfl)
  have C1 := hide (wopen_ok _ AO AR AK nO cO nR cR cK obs roots ks gs h3 hcp (hO.below hS0.below_) (hR.below hS0.below_) (hK.below hS0.below_) hz)
  have HS0 := hide hS0
  have HV := hide (show ∀ x : Int, ValsOk nO (fieldsI gs x) from fun x => by have := fieldsI_ok (x := x) hG.vg; rw [hG.len, h3] at this; exact this)
  have HVR := hide (show ValsOk nO roots by have := hG.vr; rw [hG.len] at this; exact this)
  have HF4 := hide (show ∀ x : Int, (fieldsI gs x).length ≤ 4 from fun x => by rw [← h3]; exact fields_le hG.fs x)
  have HNR := hide hG.nR_
  have HFL := hide hG.fl
  have HKL := hide hkl
  have HO := hide hO
  have HR := hide hR
  have HK := hide hK
  have H3 := hide h3
  have HCP := hide hcp
  clear hz hS0 a1 a4 hO hR hK h3 hcp hG hkl
  go_enter Try.func48, Try.ntmps48
  go_wp2_with fail
  refine C1.out.mono ?_
  rintro e w1 ⟨gb, Bt, b, rfl, hk, hbl, hP⟩
  have hS1 := sepNewL HS0.out hP
  have HKP := hide hk
  have HBL := hide hbl
  obtain ⟨b1, b2, b3, b4⟩ := hS1.rules 2 (g := w.heap.size) (t := 25) rfl
  have b5 := (b1 0).trans (show _ = some (.slice AO nO cO) from rfl)
  have b6 := (b1 1).trans (show _ = some (.slice AR nR cR) from rfl)
  have HS1 := hide hS1
  clear hk hbl hP hS1 HS0 C1 a2 a3 a5 a6 b1 b4
  go_wp2_with fail
  have hS2 : Sep No w (w1.alloc (.cells #[.slice none 0 0, .slice AR nR cR] 25)) (ClI w w1.heap.size gb Bt b AO AR AK nO cO nR cR cK none 0 0 []) := (HS1.out.blkAt 25 #[.slice none 0 0, .slice AR nR cR] (g := w1.heap.size) rfl).nilRow0 83 1
  have HS2 := hide hS2
  obtain ⟨go, hgo⟩ : ∃ g, w1.heap.size = g := ⟨_, rfl⟩
  have CAL := hide (fun (w' : World) (v : Val) (hM : WkM Bt gb AO AR AK nO cO nR cR cK obs ks w') (hP : (wkIt gb nO b).P w') (hv : v.1 = true → 0 ≤ v.2 ∧ v.2 < (nO : Int)) => alivP_any w' Bt gb AO AR AK nO cO nR cR cK obs ks b v hM hP hn hv)
  obtain ⟨W2, hW2⟩ : ∃ W, w1.alloc (.cells #[.slice none 0 0, .slice AR nR cR] 25) = W := ⟨_, rfl⟩
  simp only [hgo, hW2] at HS2 ⊢
  clear hS2 HS1 b2 b3 b5 b6 hgo hW2
  go_loopw [31] (fun s wr => ∃ (k : Nat) (A' : Option Addr) (c' : Nat) (obs' : List Ob), k ≤ nO ∧ s = .int .i64 k ∧ Hid (obs'.map Ob.fields = (clearAll gs ks (bp b) nO).take k) ∧ Sep No w wr (ClI w go gb Bt b AO AR AK nO cO nR cR cK A' k c' obs')) (fun s _ => nO - (intOf s).toNat)
  case atStart => exact ⟨0, none, 0, [], by omega, rfl, by simp [Hid], HS2.out⟩
  case round =>
    clear HS2
    obtain ⟨k, A', c', obs', hk, rfl, HOB, hS⟩ := hrel
    by_cases hlt : k < nO
    · have hil : k < obs.length := by rw [HO.out.len]; exact hlt
      obtain ⟨ad, hAO, _, had, hc⟩ := (HO.out.below hS.below_).row.at_ hlt
      have e0 := hc obs[k].val (by simp [List.getElem?_eq_getElem hil])
      have hrd := HO.out.each _ (List.getElem_mem hil)
      have hofl := HO.out.flen (List.getElem_mem hil)
      have ho4 := HFL.out _ (List.getElem_mem hil)
      have hoc := HCP.out _ (List.getElem_mem hil)
      have hfi : fieldsI gs (k : Int) = obs[k].fields := by
        unfold fieldsI
        rw [← H3.out, List.getD_eq_getElem?_getD]
        simp [List.getElem?_eq_getElem hil]
      have hvo := HV.out (k : Int)
      obtain ⟨o, ho⟩ : ∃ o, obs[k] = o := ⟨_, rfl⟩
      rw [hfi] at hvo
      rw [ho] at e0 hrd hofl ho4 hoc hvo hfi
      unfold Ob.val at e0
      have hS5 := hS.alloc (.cells #[.slice o.A o.n o.c] 83)
      have C := hide (cloneV_any (wr.alloc (.cells #[.slice o.A o.n o.c] 83)) o.A o.n o.c o.fields hoc.2 (by omega) (hrd.below hS5.below_))
      have HS5 := hide hS5
      have HVO := hide hvo
      have HFI := hide hfi
      have HOFL := hide hofl
      have hkl : k < ks.length := by rw [HKL.out]; exact hlt
      have hka : ksA ks k = ks[k] := by unfold ksA; rw [List.getD_eq_getElem?_getD, List.getElem?_eq_getElem hkl]; rfl
      obtain ⟨kv, hkv⟩ : ∃ kv, ks[k] = kv := ⟨_, rfl⟩
      have hke := ints_get' ks k hkl
      rw [hkv] at hke hka
      have HKE := hide hke
      have HKA := hide hka
      have HOC := hide hoc
      subst hAO
      clear hS hc hrd hofl hvo ho hfi hkl hka hkv hS5 hke hoc
      go_wp2_with fail
      refine C.out.mono ?_
      rintro e w5 ⟨A5, c5, rfl, hP5⟩
      have hS6 : Sep No w w5 (rowI 86 2 A5 o.n c5 (vals o.fields) :: ClI w go gb Bt b (some ad) AR AK nO cO nR cR cK A' k c' obs') := sepNewL HS5.out hP5
      obtain ⟨kd, hAK, _, hkd, hkc⟩ := (HK.out.below hS6.below_).at_ hlt
      have e1 := hkc _ HKE.out
      have hM := wkM_at hS6 2 3 rfl rfl (by omega) HO.out HK.out
      have CA := hide (fun v hv => CAL.out w5 v hM (hS6.get 2 rfl) hv)
      have HS6 := hide hS6
      subst hAK
      clear hP5 hS6 hM HS5 C e0 had hkc
      go_upto_region 9 with (fail)
      go_cut [12] from 39 to 56 (fun s12 wx => s12 = .bool (deadB ks (bp b) k o.fields) ∧ Sep No w wx (rowI 86 2 A5 o.n c5 (vals o.fields) :: ClI w go gb Bt b (some ad) AR (some kd) nO cO nR cR cK A' k c' obs'))
      case first =>
        by_cases h2 : kv = 2
        · subst h2
          by_cases hz : o.n = 0
          · have HD := hide (show deadB ks (bp b) k o.fields = false from by
              unfold deadB
              rw [HKA.out, HOFL.out, hz]; rfl)
            have t1 : decide ((0 : Int) < (o.n : Int)) = false := by simp; omega
            have t2 : decide (0 < o.n) = false := by simp; omega
            clear CA hz
            go_wp2_with fail
            go_meet
            case rel => exact ⟨by rw [HD.out], HS6.out⟩
          · have hnl : 0 < o.fields.length := by rw [HOFL.out]; omega
            obtain ⟨g5, hA5⟩ := own_addr' (show w5.ownsRow 0 86 2 (.slice A5 o.n c5) o.n (vals o.fields) from HS6.out.get 0 rfl) (by omega)
            subst hA5
            obtain ⟨fd, hA, _, hfd, hc3, hd3⟩ := (HS6.out.rd_ 0 rfl).atN (k := 0) (by omega)
            obtain rfl : (⟨g5, 0, none⟩ : Addr) = fd := by injection hA
            obtain ⟨v0, v1⟩ := vals_at o.fields 0 hnl
            have e2 := hc3 _ v0
            have e3 := hd3 0 _ v1
            rw [show (⟨g5, 0, none⟩ : Addr).add (0 * 2) = ⟨g5, 0, none⟩ from by simp [Addr.add]] at e2 e3
            replace e3 : w5.cell? ⟨g5, 1, none⟩ = _ := e3
            have HD := hide (show deadB ks (bp b) k o.fields = !aliveB (bp b) o.fields[0] from by
              unfold deadB
              rw [HKA.out, decide_eq_true hnl, head_get hnl]; simp)
            have C7 := hide (CA.out _ (HVO.out _ (List.getElem_mem hnl)))
            obtain ⟨v, hv0⟩ : ∃ v, o.fields[0] = v := ⟨_, rfl⟩
            rw [hv0] at e2 e3 HD C7
            obtain ⟨y, hy⟩ : ∃ y, aliveB (bp b) v = y := ⟨_, rfl⟩
            rw [hy] at HD C7
            obtain ⟨bv, m⟩ := v
            dsimp only at e2 e3 C7
            have t1 : (0 : Int) < (o.n : Int) := by omega
            have t2 : 0 < o.n := by omega
            clear CA hz hnl hA hc3 hd3 v0 v1 hv0 hy
            go_wp2_with fail
            refine C7.out.mono ?_
            rintro e w7 ⟨rfl, hb7⟩
            have HS7 := hide (HS6.out.below hb7)
            clear hb7 HS6 C7
            cases y with
            | true =>
              go_wp2_with fail
              go_meet
              case rel => exact ⟨by rw [HD.out]; rfl, HS7.out⟩
            | false =>
              go_wp2_with fail
              go_meet
              case rel => exact ⟨by rw [HD.out]; rfl, HS7.out⟩
        · have k2 : (kv == 2) = false := by simp [h2]
          have HD := hide (show deadB ks (bp b) k o.fields = false from by
            unfold deadB
            rw [HKA.out, decide_eq_false h2]; rfl)
          clear CA
          go_wp2_with fail
          go_meet
          case rel => exact ⟨by rw [HD.out], HS6.out⟩
      case rest =>
        obtain ⟨rfl, hS⟩ := hcut
        have HCV := hide (fun v (h : v ∈ o.fields) => clearV_eq (ks := ks) (p := bp b) (i := k) h)
        obtain ⟨d, hd⟩ : ∃ d, deadB ks (bp b) k o.fields = d := ⟨_, rfl⟩
        rw [hd] at HCV ⊢
        have HS := hide (show Sep No w wc (rowI 86 2 A5 o.n c5 (vals (clearP ks (bp b) k o.fields 0)) :: ClI w go gb Bt b (some ad) AR (some kd) nO cO nR cR cK A' k c' obs') from by rw [clearP_zero]; exact hS)
        clear hS hd CA HS6 e1 hkd
        go_wp2_with fail
        go_loopw [59] (fun s wr2 => ∃ j : Nat, j ≤ o.n ∧ s = .int .i64 j ∧ Sep No w wr2 (rowI 86 2 A5 o.n c5 (vals (clearP ks (bp b) k o.fields j)) :: ClI w go gb Bt b (some ad) AR (some kd) nO cO nR cR cK A' k c' obs')) (fun s _ => o.n - (intOf s).toNat)
        case atStart => exact ⟨0, by omega, rfl, HS.out⟩
        case round =>
          clear HS
          obtain ⟨j, hj, rfl, hS⟩ := hrel
          by_cases hlj : j < o.n
          · obtain ⟨g5, hA5⟩ := own_addr' (show wr.ownsRow 0 86 2 (.slice A5 o.n c5) o.n _ from hS.get 0 rfl) (by omega)
            subst hA5
            have hjl : j < o.fields.length := by rw [HOFL.out]; exact hlj
            have hjl2 : j < (clearP ks (bp b) k o.fields j).length := by rw [clearP_len]; exact hjl
            obtain ⟨e2, e3, _, _⟩ := row_val (hS.get 0 rfl) j hlj hjl2
            rw [clearP_get hjl hjl2] at e2 e3
            have HSET := hide (clearP_set (ks := ks) (p := bp b) (i := k) hjl)
            have HSAME := hide (fun h => clearP_same (ks := ks) (p := bp b) (i := k) hjl h)
            have HCV1 := hide (HCV.out _ (List.getElem_mem hjl))
            have hvv := HVO.out _ (List.getElem_mem hjl)
            have hgetR := fun (X : World) (Y : List Item) (h : Sep No w X (rowI 86 2 (some ⟨g5, 0, none⟩) o.n c5 (vals (clearP ks (bp b) k o.fields j)) :: Y)) => row_val (h.get 0 rfl) j hlj hjl2
            obtain ⟨v, hv0⟩ : ∃ v, o.fields[j] = v := ⟨_, rfl⟩
            simp only [clearP_get hjl hjl2] at hgetR
            rw [hv0] at e2 e3 HSET HSAME HCV1 hvv
            simp only [hv0] at hgetR
            have HGR := hide hgetR
            obtain ⟨bv, m⟩ := v
            dsimp only at e2 e3
            have hSb := hS.alloc (.cells #[.bool bv, .int .i64 m] 86)
            have hM := wkM_at hSb 2 3 rfl rfl (by omega) HO.out HK.out
            have C7 := hide (CAL.out _ (bv, m) hM (hSb.get 2 rfl) hvv)
            obtain ⟨kd2, hAK, _, hkd, hkc⟩ := (HK.out.below hSb.below_).at_ hlt
            obtain rfl : kd = kd2 := by injection hAK
            have e1 := hkc _ HKE.out
            obtain ⟨_, _, e4, e5⟩ := HGR.out _ _ hSb
            have e6 := (HGR.out _ _ hSb).1
            have e7 := (HGR.out _ _ hSb).2.1
            have hsg := hSb.hi 0 rfl g5 rfl
            have HSB := hide hSb
            have hST := fun (X : World) (h : Sep No w X (rowI 86 2 (some ⟨g5, 0, none⟩) o.n c5 (vals (clearP ks (bp b) k o.fields j)) :: ClI w go gb Bt b (some ad) AR (some kd) nO cO nR cR cK A' k c' obs')) => (h.store 0 (g := g5) rfl (j * 2) (.bool false)).store 0 (g := g5) rfl (j * 2 + 1) (.int .i64 0)
            simp only [List.set_cons_zero, vals_set2] at hST
            have HST := hide hST
            clear hS hgetR hSb hM hvv hv0 hST hAK hkc hjl2 hjl
            cases d with
            | true =>
              have HNX := hide (show clearP ks (bp b) k o.fields (j + 1) = (clearP ks (bp b) k o.fields j).set j (false, 0) from HSET.out.symm.trans (congrArg _ (HCV1.out.trans (by simp))))
              clear HSET HSAME HCV1 C7
              go_wp2_with fail
              go_roundw
              case rel => exact ⟨j + 1, by omega, by go_num, by rw [HNX.out]; exact HST.out _ HSB.out⟩
              case measure => simp [intOf]; omega
            | false =>
              by_cases h1 : kv = 1
              · subst h1
                obtain ⟨y, hy⟩ : ∃ y, aliveB (bp b) (bv, m) = y := ⟨_, rfl⟩
                rw [hy] at C7 HCV1
                rw [HKA.out] at HCV1
                clear hy
                go_wp2_with fail
                refine C7.out.mono ?_
                rintro e w7 ⟨rfl, hb7⟩
                have hS7 := HSB.out.below hb7
                obtain ⟨u1, u2, u3, u4⟩ := HGR.out _ _ hS7
                have hsg7 := hS7.hi 0 rfl g5 rfl
                have HS7 := hide hS7
                clear hS7 HSB hb7 C7 e1 e2 e3 e4 e5 e6 e7 hsg hkd
                cases y with
                | true =>
                  have HNX := hide (HSAME.out (HCV1.out.trans (by simp)))
                  clear HSET HSAME HCV1
                  go_wp2_with fail
                  go_roundw
                  case rel => exact ⟨j + 1, by omega, by go_num, by rw [HNX.out]; exact HS7.out⟩
                  case measure => simp [intOf]; omega
                | false =>
                  have HNX := hide (show clearP ks (bp b) k o.fields (j + 1) = (clearP ks (bp b) k o.fields j).set j (false, 0) from HSET.out.symm.trans (congrArg _ (HCV1.out.trans (by simp))))
                  clear HSET HSAME HCV1
                  go_wp2_with fail
                  go_roundw
                  case rel => exact ⟨j + 1, by omega, by go_num, by rw [HNX.out]; exact HST.out _ HS7.out⟩
                  case measure => simp [intOf]; omega
              · have k1 : (kv == 1) = false := by simp [h1]
                have HNX := hide (HSAME.out (HCV1.out.trans (by rw [HKA.out]; simp [h1])))
                clear HSET HSAME HCV1 C7
                go_wp2_with fail
                go_roundw
                case rel => exact ⟨j + 1, by omega, by go_num, by rw [HNX.out]; exact HSB.out⟩
                case measure => simp [intOf]; omega
          · obtain rfl : j = o.n := by omega
            rw [show clearP ks (bp b) k o.fields o.n = clearF ks (bp b) k o.fields from by rw [← HOFL.out]; exact clearP_all] at hS
            have hS9 := hS
            obtain ⟨z1, z2, z3, z4⟩ := hS9.rules 6 (g := go) (t := 25) rfl
            have z5 := (z1 0).trans (show _ = some (.slice A' k c') from rfl)
            have HTK := hide ((clearAll_take gs ks (bp b) nO k hlt).trans (by rw [HFI.out, ← HOB.out]))
            clear hS z1 z4
            go_wp2_with (first
              | (at_builtin
                 refine wpList_app1 (cs := #[.slice A5 o.n c5]) rfl (.tmp 84) (.tmp 87) 22 rfl sObj hS9 1 (n := k) rfl rfl rfl (by simp) rfl rfl (by omega) ?_
                 intro A7 c7 w7 hS7 hC7
                 obtain ⟨y1, y2, y3, y4⟩ := hS7.rules 6 (g := go) (t := 25) rfl
                 (have y5 := (y1 0).trans (show _ = some (.slice A' k c') from rfl))
                 clear y1 y4))
            go_roundw
            case rel =>
              refine ⟨k + 1, A7, c7, obs' ++ [⟨A5, o.n, c5, clearF ks (bp b) k o.fields⟩], by omega, by go_num, ?_, ?_⟩
              · show _ = _
                rw [HTK.out]; simp
              · have h := (hS7.set_ 6 (g := go) (t := 25) rfl 0 (.slice A7 (k + 1) c7)).perm (List.perm_append_singleton _ _).symm
                unfold ClI
                rw [obs_snoc_, List.map_append]
                exact h
            case measure => simp [intOf]; omega
    · obtain rfl : k = nO := by omega
      rw [List.take_of_length_le (by rw [clearAll_len]; omega)] at HOB
      obtain ⟨x1, x2, x3, x4⟩ := hS.rules 5 (g := go) (t := 25) rfl
      have x5 := (x1 0).trans (show _ = some (.slice A' k c') from rfl)
      have x6 := (x1 1).trans (show _ = some (.slice AR nR cR) from rfl)
      have hsz : w.heap.size + 1 < wr.heap.size := hS.hi 4 rfl _ rfl
      have hne1 : go ≠ w.heap.size + 1 := fun e => hS.other (a := 4) (b := 5) rfl rfl (by omega) (w.heap.size + 1) rfl (show w.heap.size + 1 = go from e.symm)
      have hne2 : w.heap.size + 1 ≠ go := fun e => hne1 e.symm
      have C2 := hide (wlist_any wr.drew Bt gb k _ b rfl (hS.drew.get 2 rfl) (hS.drew.get 1 rfl) hn)
      have C3 := hide (fun (w5 : World) (hS5 : Sep No w w5 (ClI w go gb Bt b AO AR AK k cO nR cR cK A' k c' obs')) (A : Option Addr) (m c : Nat) (hm : m ≤ k) (hl : Rd w5 (fun _ => True) 1 A m (ints (filt (bp b) k))) =>
        renumP_any w5 (.agg #[.slice A' k c', .slice AR nR cR]) A m c (clearAll gs ks (bp b) k) roots (filt (bp b) k)
          ⟨A', k, c', AR, nR, cR, obs', rfl, (obs_read hS5 (fun o ho => by unfold ClI; simp only [List.mem_cons, List.mem_map]; exact .inr (.inr (.inr (.inr (.inr (.inr ⟨o, ho, rfl⟩)))))) 0 rfl).more (fun _ _ _ => trivial), HOB.out, HR.out.below hS5.below_⟩
          hl (by rw [clearAll_len]; exact filt_rng) filt_nodup (by rw [clearAll_len]; omega) (by omega) (by rw [roots_len HR.out]; have := HNR.out; omega) (fun fs hfs => by have := clearAll_4 HF4.out fs hfs; omega) (by rw [clearAll_len]; exact HVR.out) (by rw [clearAll_len]; exact clearAll_ok HV.out))
      have HS := hide hS
      obtain ⟨FF, hFF⟩ : ∃ F, renumF (clearAll gs ks (bp b) k) (filt (bp b) k) = F := ⟨_, rfl⟩
      obtain ⟨RR, hRR⟩ : ∃ F, roots.map (turnL (filt (bp b) k)) = F := ⟨_, rfl⟩
      simp only [hFF, hRR] at C3
      have HFF := hide hFF
      have HRR := hide hRR
      clear hS x1 x4 HOB hFF hRR
      go_wp2_with fail
      go_region_held3 (fun w' => w'.cell? ⟨go, 0, none⟩ = some (.slice A' k c') ∧ w'.cell? ⟨go, 1, none⟩ = some (.slice AR nR cR)) (go_keep)
        (first
          | (go_at_call 103; (with_reducible refine C2.out.mono ?_); rintro e w5 ⟨A, m, c, rfl, hm, hP⟩; have hS5 := HS.out.drew.below hP.below_; have k1 : w5.cell? ⟨go, 0, none⟩ = some (.slice A' k c') := ((hS5.rules 5 (g := go) (t := 25) rfl).1 0).trans rfl; have k2 : w5.cell? ⟨go, 1, none⟩ = some (.slice AR nR cR) := ((hS5.rules 5 (g := go) (t := 25) rfl).1 1).trans rfl; have C4 := hide (C3.out w5 hS5 A m c hm (hP.rd_ 0 rfl)); have HS5 := hide hS5; clear hS5 hP)
          | (go_at_call 87; (with_reducible refine C4.out.mono ?_); rintro e w6 ⟨v', rfl, hb6, hg6⟩; obtain ⟨B5, n5, d5, B6, n6, d6, obs2, rfl, hO5, hF5, hR6⟩ := hg6.ex; have hS6 := HS5.out.below hb6; have k3 : w6.cell? ⟨go, 0, none⟩ = some (.slice A' k c') := ((hS6.rules 5 (g := go) (t := 25) rfl).1 0).trans rfl; have k4 : w6.cell? ⟨go, 1, none⟩ = some (.slice AR nR cR) := ((hS6.rules 5 (g := go) (t := 25) rfl).1 1).trans rfl; obtain ⟨y1, y2, y3, y4⟩ := hS6.rules 4 (g := w.heap.size + 1) (t := 25) rfl; have hsz5 : w.heap.size + 1 < w5.heap.size := HS5.out.hi 4 rfl _ rfl; have HG6 := hide hg6; have HS6 := hide hS6; clear hS6 hg6 hb6 hO5 hF5 hR6 y4))
      all_goals
        go_wp2_with fail
        have hF := (HS6.out.set_ 4 (g := w.heap.size + 1) (t := 25) rfl 0 (.slice B5 n5 d5)).set_ 4 (g := w.heap.size + 1) (t := 25) rfl 1 (.slice B6 n6 d6)
        refine bodyPost_ret (v := .tuple #[.agg #[.slice B5 n5 d5, .slice B6 n6 d6], .int .i64 0]) (by simp [results, Try.results48, go_sem, y1]) rfl ⟨_, bp b, rfl, HKP.out, hF.below_, ?_⟩
        rw [HFF.out, HRR.out]
        have hc : Chg (fun g => g = w.heap.size + 1) w6 ((w6.setCell ⟨w.heap.size + 1, 0, none⟩ (.slice B5 n5 d5)).setCell ⟨w.heap.size + 1, 1, none⟩ (.slice B6 n6 d6)) := ((Chg.refl (fun g => g = w.heap.size + 1) w6).setCell (p := ⟨w.heap.size + 1, 0, none⟩) (.inl rfl) _).setCell (p := ⟨w.heap.size + 1, 1, none⟩) (.inl rfl) _
        obtain ⟨B5, m5, d5, B6, m6, d6, obs2, he, hO5, hF5, hR6⟩ := HG6.out.ex
        exact ⟨B5, m5, d5, B6, m6, d6, obs2, he, (hO5.chg hc (fun g hg hd => by subst hg; omega)).more (fun k _ hk => by omega), hF5, (hR6.chg hc (fun g hg hd => by subst hg; omega)).more (fun k _ hk => by omega)⟩
end Go.Proofs.Ytaajkldhnjoicaa

namespace Go.Proofs.Ytaajkldhnjoicaa
open Go.RowKit Go.Shelf

def deadV (ks : List Int) (p : Nat → Bool) (i : Nat) (f : List Val) (v : Val) : Bool := (decide (ksA ks i = 1) && !aliveB p v) || (decide (ksA ks i = 2) && !headAl p f)
theorem clearV_dv (ks : List Int) (p : Nat → Bool) (i : Nat) (f : List Val) (v : Val) : clearV ks p i f v = if deadV ks p i f v = true then (false, 0) else v := by
  unfold clearV deadV
  by_cases h1 : ksA ks i = 1
  · cases ha : aliveB p v <;> simp [h1]
  · by_cases h2 : ksA ks i = 2
    · cases ha : headAl p f <;> simp [h2]
    · simp [h1, h2]
theorem clearT_next {ks : List Int} {p : Nat → Bool} {i : Nat} {f : List Val} {j : Nat} (hj : j < f.length) : (f.take (j + 1)).map (clearV ks p i f) = (f.take j).map (clearV ks p i f) ++ [clearV ks p i f f[j]] := by
  rw [List.take_succ_eq_append_getElem hj, List.map_append]; rfl

/-- What the reference's Clear has in hand. -/
def ClJ (w : World) (go : Nat) (b : List Bool) (A1 AO AR : Option Addr) (nO c1 cO nR cR : Nat) (A' : Option Addr) (k c' : Nat) (obs' : List Ob) : List Item :=
  rowI 83 1 A' k c' (obs'.map Ob.val) :: rowI 4 1 A1 nO c1 (bls b) :: blkI w.heap.size 25 #[.slice AO nO cO, .slice AR nR cR] :: blkI (w.heap.size + 1) 25 #[.slice none 0 0, .slice none 0 0] :: blkI go 25 #[.slice A' k c', .slice AR nR cR] :: obs'.map obI

set_option maxRecDepth 100000 in
set_option maxHeartbeats 16000000 in
theorem refClear_any (w : World) (AO AR AK : Option Addr) (nO cO nR cR cK : Nat) (obs : List Ob) (roots : List Val) (ks : List Int) (gs : List (List Val)) (h3 : obs.map Ob.fields = gs) (hO : ObsRd w (fun _ => True) AO nO obs) (hR : Rd w (fun _ => True) 2 AR nR (vals roots)) (hK : Rd w (fun _ => True) 1 AK nO (ints ks)) (hG : GOk nO nR obs roots) :
    Calls Try.prog 52 #[.agg #[.slice AO nO cO, .slice AR nR cR], .slice AK nO cK] w fun e w' => ∃ v' p, e = .returned v' ∧ Kpt gs ks roots nO p ∧ Below w.heap.size w w' ∧ GraphRd w' (fun g => w.heap.size ≤ g) v' (renumF (clearAll gs ks p nO) (filt p nO)) (roots.map (turnL (filt p nO))) := by
  have hn := hG.nO_
  have hkl : ks.length = nO := by have := hK.1; simpa using this
  have hS0 := ((Sep.nil No w).blkAt 25 #[.slice AO nO cO, .slice AR nR cR] rfl).blkAt 25 #[.slice none 0 0, .slice none 0 0] (g := w.heap.size + 1) (by simp)
  obtain ⟨a1, a2, a3, a4⟩ := hS0.rules 0 (g := w.heap.size) (t := 25) rfl
  have a5 := (a1 0).trans (show _ = some (.slice AO nO cO) from rfl)
  have a6 := (a1 1).trans (show _ = some (.slice AR nR cR) from rfl)
  have C1 := hide (refKept_any _ AO AR AK nO cO nR cR cK obs roots ks gs h3 (hO.below hS0.below_) (hR.below hS0.below_) (hK.below hS0.below_) hG)
  have HS0 := hide hS0
  have HV := hide (show ∀ x : Int, ValsOk nO (fieldsI gs x) from fun x => by have := fieldsI_ok (x := x) hG.vg; rw [hG.len, h3] at this; exact this)
  have HF4 := hide (show ∀ x : Int, (fieldsI gs x).length ≤ 4 from fun x => by rw [← h3]; exact fields_le hG.fs x)
  have HNR := hide hG.nR_
  have HFL := hide hG.fl
  have HKL := hide hkl
  have HO := hide hO
  have HR := hide hR
  have HK := hide hK
  have H3 := hide h3
  clear hS0 a1 a4 hO hR hK h3 hG hkl
  go_enter Try.func52, Try.ntmps52
  go_wp2_with fail
  refine C1.out.mono ?_
  rintro e w1 ⟨A1, c1, b, rfl, hk, hbl, hP⟩
  have hS1 := sepNewR HS0.out hP
  have HKP := hide hk
  have HBL := hide hbl
  obtain ⟨b1, b2, b3, b4⟩ := hS1.rules 0 (g := w.heap.size) (t := 25) rfl
  have b5 := (b1 0).trans (show _ = some (.slice AO nO cO) from rfl)
  have b6 := (b1 1).trans (show _ = some (.slice AR nR cR) from rfl)
  have HS1 := hide hS1
  clear hk hbl hP hS1 HS0 C1 a2 a3 a5 a6 b1 b4
  go_wp2_with fail
  have hS2 : Sep No w (w1.alloc (.cells #[.slice none 0 0, .slice AR nR cR] 25)) (ClJ w w1.heap.size b A1 AO AR nO c1 cO nR cR none 0 0 []) :=
    (((HS1.out.perm (l := [rowI 4 1 A1 nO c1 (bls b), blkI w.heap.size 25 #[.slice AO nO cO, .slice AR nR cR], blkI (w.heap.size + 1) 25 #[.slice none 0 0, .slice none 0 0]]) List.perm_append_comm).blkAt 25 #[.slice none 0 0, .slice AR nR cR] (g := w1.heap.size) rfl).nilRow0 83 1)
  have HS2 := hide hS2
  obtain ⟨go, hgo⟩ : ∃ g, w1.heap.size = g := ⟨_, rfl⟩
  have CAL := hide (fun (w' : World) (v : Val) (hT : Rd w' (fun _ => True) 1 A1 nO (bls b)) (hv : v.1 = true → 0 ≤ v.2 ∧ v.2 < (nO : Int)) => refAlive_any w' A1 nO c1 b v hT hn hv)
  obtain ⟨W2, hW2⟩ : ∃ W, w1.alloc (.cells #[.slice none 0 0, .slice AR nR cR] 25) = W := ⟨_, rfl⟩
  simp only [hgo, hW2] at HS2 ⊢
  clear hS2 HS1 b2 b3 b5 b6 hgo hW2
  go_loopw [22] (fun s wr => ∃ (k : Nat) (A' : Option Addr) (c' : Nat) (obs' : List Ob), k ≤ nO ∧ s = .int .i64 k ∧ Hid (obs'.map Ob.fields = (clearAll gs ks (bp b) nO).take k) ∧ Sep No w wr (ClJ w go b A1 AO AR nO c1 cO nR cR A' k c' obs')) (fun s _ => nO - (intOf s).toNat)
  case atStart => exact ⟨0, none, 0, [], by omega, rfl, by simp [Hid], HS2.out⟩
  case round =>
    clear HS2
    obtain ⟨k, A', c', obs', hk, rfl, HOB, hS⟩ := hrel
    by_cases hlt : k < nO
    · obtain ⟨ad, o, hAO, had, e0, hrd, hfi, ho4, hofl⟩ := ob_at2 HO.out hS.below_ H3.out HFL.out hlt
      have hvo := HV.out (k : Int)
      rw [hfi] at hvo
      have HVO := hide hvo
      have HFI := hide hfi
      have HOFL := hide hofl
      have HRD := hide hrd
      have hkl : k < ks.length := by rw [HKL.out]; exact hlt
      have hka : ksA ks k = ks[k] := by unfold ksA; rw [List.getD_eq_getElem?_getD, List.getElem?_eq_getElem hkl]; rfl
      obtain ⟨kv, hkv⟩ : ∃ kv, ks[k] = kv := ⟨_, rfl⟩
      have hke := ints_get' ks k hkl
      rw [hkv] at hke hka
      have HKE := hide hke
      have HKA := hide hka
      have hS4 := ((hS.blkAt 83 #[.slice o.A o.n o.c] (g := wr.heap.size) rfl).perm (l := blkI wr.heap.size 83 #[.slice o.A o.n o.c] :: ClJ w go b A1 AO AR nO c1 cO nR cR A' k c' obs') List.perm_append_comm)
      have hS5 := (hS4.blkAt 83 #[.slice none 0 0] (g := wr.heap.size + 1) (by simp)).perm (l := blkI (wr.heap.size + 1) 83 #[.slice none 0 0] :: blkI wr.heap.size 83 #[.slice o.A o.n o.c] :: ClJ w go b A1 AO AR nO c1 cO nR cR A' k c' obs') List.perm_append_comm
      have HS5 := hide (hS5.nilRow0 86 2)
      obtain ⟨gx, hgx⟩ : ∃ g, wr.heap.size = g := ⟨_, rfl⟩
      subst hAO
      clear hS hS4 hS5 hrd hvo hfi hofl hkl hka hkv hke
      go_wp2_with fail
      rw [hgx] at HS5
      go_loopw [31] (fun s wx => ∃ (j : Nat) (A5 : Option Addr) (c5 : Nat), j ≤ o.n ∧ s = .int .i64 j ∧ Sep No w wx (rowI 86 2 A5 j c5 (vals ((o.fields.take j).map (clearV ks (bp b) k o.fields))) :: blkI (gx + 1) 83 #[.slice A5 j c5] :: blkI gx 83 #[.slice o.A o.n o.c] :: ClJ w go b A1 (some ad) AR nO c1 cO nR cR A' k c' obs')) (fun s _ => o.n - (intOf s).toNat)
      case atStart => exact ⟨0, none, 0, by omega, rfl, HS5.out⟩
      case round =>
        clear HS5 e0 had
        obtain ⟨j, A5, c5, hj, rfl, hS⟩ := hrel
        by_cases hlj : j < o.n
        · have hjl : j < o.fields.length := by rw [HOFL.out]; exact hlj
          obtain ⟨fd, hA, _, hfd, hc3, hd3⟩ := (HRD.out.below hS.below_).atN hlj
          obtain ⟨v0, v1⟩ := vals_at o.fields j hjl
          have e2 := hc3 _ v0
          have e3 := hd3 0 _ v1
          have hvv := HVO.out _ (List.getElem_mem hjl)
          have HNX := hide (clearT_next (ks := ks) (p := bp b) (i := k) hjl)
          obtain ⟨v, hv0⟩ : ∃ v, o.fields[j] = v := ⟨_, rfl⟩
          rw [hv0] at e2 e3 HNX hvv
          rw [clearV_dv] at HNX
          obtain ⟨bv, m⟩ := v
          dsimp only at e2 e3
          rw [hA]
          have HA := hide hA
          have hSv := ((hS.blkAt 86 #[.bool bv, .int .i64 m] (g := wr.heap.size) rfl).perm (l := blkI wr.heap.size 86 #[.bool bv, .int .i64 m] :: rowI 86 2 A5 j c5 (vals ((o.fields.take j).map (clearV ks (bp b) k o.fields))) :: blkI (gx + 1) 83 #[.slice A5 j c5] :: blkI gx 83 #[.slice o.A o.n o.c] :: ClJ w go b A1 (some ad) AR nO c1 cO nR cR A' k c' obs') List.perm_append_comm)
          obtain ⟨kd, hAK, _, hkd, hkc⟩ := (HK.out.below hSv.below_).at_ hlt
          have e1 := hkc _ HKE.out
          have C7 := hide (CAL.out _ (bv, m) (hSv.rd_ 5 rfl) hvv)
          have C8 := hide (fun u hu => CAL.out _ u (hSv.rd_ 5 rfl) hu)
          obtain ⟨x1, x2, x3, x4⟩ := hSv.rules 3 (g := gx) (t := 83) rfl
          have x5 := (x1 0).trans (show _ = some (.slice o.A o.n o.c) from rfl)
          have hfd0 := (HRD.out.below hSv.below_)
          have HFD0 := hide hfd0
          have HSV := hide hSv
          obtain ⟨gv, hgv⟩ : ∃ g, wr.heap.size = g := ⟨_, rfl⟩
          subst hAK
          clear hS hSv hc3 hd3 v0 v1 hv0 hvv hkc x1 x4 hfd0 hA
          go_upto_region 10 with (fail)
          go_cut [12] from 35 to 60 (fun s12 wx => s12 = .bool (deadV ks (bp b) k o.fields (bv, m)) ∧ Sep No w wx (blkI gv 86 #[.bool bv, .int .i64 m] :: rowI 86 2 A5 j c5 (vals ((o.fields.take j).map (clearV ks (bp b) k o.fields))) :: blkI (gx + 1) 83 #[.slice A5 j c5] :: blkI gx 83 #[.slice o.A o.n o.c] :: ClJ w go b A1 (some ad) AR nO c1 cO nR cR A' k c' obs'))
          case first =>
            rw [hgv] at HSV
            by_cases h1 : kv = 1
            · subst h1
              have HD := hide (show deadV ks (bp b) k o.fields (bv, m) = !aliveB (bp b) (bv, m) from by unfold deadV; rw [HKA.out]; simp)
              obtain ⟨y, hy⟩ : ∃ y, aliveB (bp b) (bv, m) = y := ⟨_, rfl⟩
              rw [hy] at C7 HD
              clear hy C8
              go_wp2_with fail
              refine C7.out.mono ?_
              rintro e w7 ⟨rfl, hb7⟩
              have hS7 := HSV.out.below hb7
              obtain ⟨kd3, hAK, _, hkd3, hkc⟩ := (HK.out.below hS7.below_).at_ hlt
              obtain rfl : kd = kd3 := by injection hAK
              have e1 := hkc _ HKE.out
              have HS7 := hide hS7
              clear hS7 hkc hAK hb7 C7 HSV
              cases y with
              | true =>
                go_wp2_with fail
                go_meet
                case rel => exact ⟨by rw [HD.out]; rfl, HS7.out⟩
              | false =>
                go_wp2_with fail
                go_meet
                case rel => exact ⟨by rw [HD.out]; rfl, HS7.out⟩
            · have k1 : (kv == 1) = false := by simp [h1]
              by_cases h2 : kv = 2
              · subst h2
                have hnl : 0 < o.fields.length := by have := HOFL.out; omega
                obtain ⟨fd2, hA2, _, hfd2, hc3, hd3⟩ := HFD0.out.atN (k := 0) (by omega)
                obtain ⟨v0, v1⟩ := vals_at o.fields 0 hnl
                have e4 := hc3 _ v0
                have e5 := hd3 0 _ v1
                rw [show fd2.add (0 * 2) = fd2 from by simp [Addr.add]] at e4 e5
                have HD := hide (show deadV ks (bp b) k o.fields (bv, m) = !aliveB (bp b) o.fields[0] from by
                  unfold deadV; rw [HKA.out, head_get hnl]; simp)
                have C9 := hide (C8.out _ (HVO.out _ (List.getElem_mem hnl)))
                obtain ⟨u, hu0⟩ : ∃ v, o.fields[0] = v := ⟨_, rfl⟩
                rw [hu0] at e4 e5 HD C9
                obtain ⟨y, hy⟩ : ∃ y, aliveB (bp b) u = y := ⟨_, rfl⟩
                rw [hy] at C9 HD
                obtain ⟨bu, mu⟩ := u
                dsimp only at e4 e5 C9
                have t1 : (0 : Int) < (o.n : Int) := by omega
                have t2 : 0 < o.n := by omega
                obtain rfl : fd = fd2 := by have := HA.out.symm.trans hA2; injection this
                rw [hA2] at x5
                clear hy C8 C7 hc3 hd3 v0 v1 hu0 hA2 hnl h1
                go_wp2_with fail
                refine C9.out.mono ?_
                rintro e w7 ⟨rfl, hb7⟩
                have HS7 := hide (HSV.out.below hb7)
                clear hb7 C9 HSV
                cases y with
                | true =>
                  go_wp2_with fail
                  go_meet
                  case rel => exact ⟨by rw [HD.out]; rfl, HS7.out⟩
                | false =>
                  go_wp2_with fail
                  go_meet
                  case rel => exact ⟨by rw [HD.out]; rfl, HS7.out⟩
              · have k2 : (kv == 2) = false := by simp [h2]
                have HD := hide (show deadV ks (bp b) k o.fields (bv, m) = false from by unfold deadV; rw [HKA.out]; simp [h1, h2])
                clear C7 C8
                go_wp2_with fail
                go_meet
                case rel => exact ⟨by rw [HD.out], HSV.out⟩
          case rest =>
            obtain ⟨rfl, hS⟩ := hcut
            obtain ⟨d, hd⟩ : ∃ d, deadV ks (bp b) k o.fields (bv, m) = d := ⟨_, rfl⟩
            rw [hd] at HNX ⊢
            clear hd C7 C8 HSV HFD0 e1 e2 e3 x2 x3 x5 hkd hfd
            obtain ⟨y1, y2, y3, y4⟩ := hS.rules 0 (g := gv) (t := 86) rfl
            have y5 := (y1 0).trans (show _ = some (.bool bv) from rfl)
            have y6 := (y1 1).trans (show _ = some (.int .i64 m) from rfl)
            have y7 := y2 0
            have y8 := y2 1
            cases d with
            | true =>
              have hS9 := (hS.set_ 0 (g := gv) (t := 86) rfl 0 (.bool false)).set_ 0 (g := gv) (t := 86) rfl 1 (.int .i64 0)
              obtain ⟨z1, z2, z3, z4⟩ := hS9.rules 2 (g := gx + 1) (t := 83) rfl
              have z5 := (z1 0).trans (show _ = some (.slice A5 j c5) from rfl)
              have HNX2 := hide (HNX.out.trans (show _ = (o.fields.take j).map (clearV ks (bp b) k o.fields) ++ [(false, 0)] from by simp))
              clear hS y1 y4 z1 z4 HNX
              go_wp2_with (first
                | (at_builtin
                   refine wpList_app1 (cs := #[.bool false, .int .i64 0]) rfl (.tmp 65) (.tmp 67) 23 rfl sVal hS9 1 (n := j) rfl rfl rfl (by simp) rfl rfl (by omega) ?_
                   intro A7 c7 w7 hS7 hC7
                   obtain ⟨q1, q2, q3, q4⟩ := hS7.rules 2 (g := gx + 1) (t := 83) rfl
                   (have q5 := (q1 0).trans (show _ = some (.slice A5 j c5) from rfl))
                   clear q1 q4))
              go_roundw
              case rel =>
                refine ⟨j + 1, A7, c7, by omega, by go_num, ?_⟩
                rw [HNX2.out, ← HA.out, vals_snoc]
                exact (hS7.set_ 2 (g := gx + 1) (t := 83) rfl 0 (.slice A7 (j + 1) c7)).sub (.cons _ (List.Sublist.refl _))
              case measure => simp [intOf]; omega
            | false =>
              have hS9 := hS
              obtain ⟨z1, z2, z3, z4⟩ := hS9.rules 2 (g := gx + 1) (t := 83) rfl
              have z5 := (z1 0).trans (show _ = some (.slice A5 j c5) from rfl)
              have HNX2 := hide (HNX.out.trans (show _ = (o.fields.take j).map (clearV ks (bp b) k o.fields) ++ [(bv, m)] from by simp))
              clear hS y1 y4 z1 z4 HNX
              go_wp2_with (first
                | (at_builtin
                   refine wpList_app1 (cs := #[.bool bv, .int .i64 m]) rfl (.tmp 65) (.tmp 67) 23 rfl sVal hS9 1 (n := j) rfl rfl rfl (by simp) rfl rfl (by omega) ?_
                   intro A7 c7 w7 hS7 hC7
                   obtain ⟨q1, q2, q3, q4⟩ := hS7.rules 2 (g := gx + 1) (t := 83) rfl
                   (have q5 := (q1 0).trans (show _ = some (.slice A5 j c5) from rfl))
                   clear q1 q4))
              go_roundw
              case rel =>
                refine ⟨j + 1, A7, c7, by omega, by go_num, ?_⟩
                rw [HNX2.out, ← HA.out, vals_snoc]
                exact (hS7.set_ 2 (g := gx + 1) (t := 83) rfl 0 (.slice A7 (j + 1) c7)).sub (.cons _ (List.Sublist.refl _))
              case measure => simp [intOf]; omega
        · obtain rfl : j = o.n := by omega
          rw [show (o.fields.take o.n).map (clearV ks (bp b) k o.fields) = clearF ks (bp b) k o.fields from by rw [List.take_of_length_le (by rw [HOFL.out]; omega)]; rfl] at hS
          have hS9 := hS
          obtain ⟨z1, z2, z3, z4⟩ := hS9.rules 7 (g := go) (t := 25) rfl
          have z5 := (z1 0).trans (show _ = some (.slice A' k c') from rfl)
          obtain ⟨p1, p2, p3, p4⟩ := hS9.rules 1 (g := gx + 1) (t := 83) rfl
          have p5 := (p1 0).trans (show _ = some (.slice A5 o.n c5) from rfl)
          have HTK := hide ((clearAll_take gs ks (bp b) nO k hlt).trans (by rw [HFI.out, ← HOB.out]))
          clear hS z1 z4 p1 p4
          go_wp2_with (first
            | (at_builtin
               refine wpList_app1 (cs := #[.slice A5 o.n c5]) rfl (.tmp 72) (.tmp 74) 22 rfl sObj hS9 3 (n := k) rfl rfl rfl (by simp) rfl rfl (by omega) ?_
               intro A7 c7 w7 hS7 hC7
               obtain ⟨y1, y2, y3, y4⟩ := hS7.rules 7 (g := go) (t := 25) rfl
               (have y5 := (y1 0).trans (show _ = some (.slice A' k c') from rfl))
               clear y1 y4))
          go_roundw
          case rel =>
            refine ⟨k + 1, A7, c7, obs' ++ [⟨A5, o.n, c5, clearF ks (bp b) k o.fields⟩], by omega, by go_num, ?_, ?_⟩
            · show _ = _
              rw [HTK.out]; simp
            · have h := ((hS7.set_ 7 (g := go) (t := 25) rfl 0 (.slice A7 (k + 1) c7)).sub (l := rowI 86 2 A5 o.n c5 (vals (clearF ks (bp b) k o.fields)) :: _) (.cons_cons _ (.cons _ (.cons _ (List.Sublist.refl _))))).perm (List.perm_append_singleton _ _).symm
              unfold ClJ
              rw [obs_snoc_, List.map_append]
              exact h
          case measure => simp [intOf]; omega
    · obtain rfl : k = nO := by omega
      rw [List.take_of_length_le (by rw [clearAll_len]; omega)] at HOB
      obtain ⟨x1, x2, x3, x4⟩ := hS.rules 4 (g := go) (t := 25) rfl
      have x5 := (x1 0).trans (show _ = some (.slice A' k c') from rfl)
      have x6 := (x1 1).trans (show _ = some (.slice AR nR cR) from rfl)
      have hsz : w.heap.size + 1 < wr.heap.size := hS.hi 3 rfl _ rfl
      have hne1 : go ≠ w.heap.size + 1 := fun e => hS.other (a := 3) (b := 4) rfl rfl (by omega) (w.heap.size + 1) rfl (show w.heap.size + 1 = go from e.symm)
      have hne2 : w.heap.size + 1 ≠ go := fun e => hne1 e.symm
      have C2 := hide (refList_any wr.drew A1 k c1 b (hS.drew.rd_ 1 rfl) hn)
      have C3 := hide (fun (w5 : World) (hS5 : Sep No w w5 (ClJ w go b A1 AO AR k c1 cO nR cR A' k c' obs')) (A : Option Addr) (m c : Nat) (hm : m ≤ k) (hl : Rd w5 (fun _ => True) 1 A m (ints (filt (bp b) k))) =>
        renumber_any w5 (.agg #[.slice A' k c', .slice AR nR cR]) A m c (clearAll gs ks (bp b) k) roots (filt (bp b) k)
          ⟨A', k, c', AR, nR, cR, obs', rfl, (obs_read hS5 (fun o ho => by unfold ClJ; simp only [List.mem_cons, List.mem_map]; exact .inr (.inr (.inr (.inr (.inr ⟨o, ho, rfl⟩))))) 0 rfl).more (fun _ _ _ => trivial), HOB.out, HR.out.below hS5.below_⟩
          hl (by rw [clearAll_len]; exact filt_rng) (by rw [clearAll_len]; omega) (by omega) (by rw [roots_len HR.out]; have := HNR.out; omega) (fun fs hfs => by have := clearAll_4 HF4.out fs hfs; omega))
      have HS := hide hS
      obtain ⟨FF, hFF⟩ : ∃ F, renumF (clearAll gs ks (bp b) k) (filt (bp b) k) = F := ⟨_, rfl⟩
      obtain ⟨RR, hRR⟩ : ∃ F, roots.map (turnL (filt (bp b) k)) = F := ⟨_, rfl⟩
      simp only [hFF, hRR] at C3
      have HFF := hide hFF
      have HRR := hide hRR
      clear hS x1 x4 HOB hFF hRR
      go_wp2_with fail
      go_region_held3 (fun w' => w'.cell? ⟨go, 0, none⟩ = some (.slice A' k c') ∧ w'.cell? ⟨go, 1, none⟩ = some (.slice AR nR cR)) (go_keep)
        (first
          | (go_at_call 50; (with_reducible refine C2.out.mono ?_); rintro e w5 ⟨A, m, c, rfl, hm, hP⟩; have hS5 := HS.out.drew.below hP.below_; have k1 : w5.cell? ⟨go, 0, none⟩ = some (.slice A' k c') := ((hS5.rules 4 (g := go) (t := 25) rfl).1 0).trans rfl; have k2 : w5.cell? ⟨go, 1, none⟩ = some (.slice AR nR cR) := ((hS5.rules 4 (g := go) (t := 25) rfl).1 1).trans rfl; have C4 := hide (C3.out w5 hS5 A m c hm (hP.rd_ 0 rfl)); have HS5 := hide hS5; clear hS5 hP)
          | (go_at_call 91; (with_reducible refine C4.out.mono ?_); rintro e w6 ⟨v', rfl, hb6, hg6⟩; obtain ⟨B5, n5, d5, B6, n6, d6, obs2, rfl, hO5, hF5, hR6⟩ := hg6.ex; have hS6 := HS5.out.below hb6; have k3 : w6.cell? ⟨go, 0, none⟩ = some (.slice A' k c') := ((hS6.rules 4 (g := go) (t := 25) rfl).1 0).trans rfl; have k4 : w6.cell? ⟨go, 1, none⟩ = some (.slice AR nR cR) := ((hS6.rules 4 (g := go) (t := 25) rfl).1 1).trans rfl; obtain ⟨y1, y2, y3, y4⟩ := hS6.rules 3 (g := w.heap.size + 1) (t := 25) rfl; have hsz5 : w.heap.size + 1 < w5.heap.size := HS5.out.hi 3 rfl _ rfl; have HG6 := hide hg6; have HS6 := hide hS6; clear hS6 hg6 hb6 hO5 hF5 hR6 y4))
      all_goals
        go_wp2_with fail
        have hF := (HS6.out.set_ 3 (g := w.heap.size + 1) (t := 25) rfl 0 (.slice B5 n5 d5)).set_ 3 (g := w.heap.size + 1) (t := 25) rfl 1 (.slice B6 n6 d6)
        refine bodyPost_ret (v := .agg #[.slice B5 n5 d5, .slice B6 n6 d6]) (by simp [results, Try.results52, go_sem, y1]) rfl ⟨_, bp b, rfl, HKP.out, hF.below_, ?_⟩
        rw [HFF.out, HRR.out]
        have hc : Chg (fun g => g = w.heap.size + 1) w6 ((w6.setCell ⟨w.heap.size + 1, 0, none⟩ (.slice B5 n5 d5)).setCell ⟨w.heap.size + 1, 1, none⟩ (.slice B6 n6 d6)) := ((Chg.refl (fun g => g = w.heap.size + 1) w6).setCell (p := ⟨w.heap.size + 1, 0, none⟩) (.inl rfl) _).setCell (p := ⟨w.heap.size + 1, 1, none⟩) (.inl rfl) _
        obtain ⟨B5, m5, d5, B6, m6, d6, obs2, he, hO5, hF5, hR6⟩ := HG6.out.ex
        exact ⟨B5, m5, d5, B6, m6, d6, obs2, he, (hO5.chg hc (fun g hg hd => by subst hg; omega)).more (fun k _ hk => by omega), hF5, (hR6.chg hc (fun g hg hd => by subst hg; omega)).more (fun k _ hk => by omega)⟩
end Go.Proofs.Ytaajkldhnjoicaa
