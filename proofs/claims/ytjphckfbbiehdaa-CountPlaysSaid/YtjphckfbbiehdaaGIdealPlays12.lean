/- The reference's Reach. The order in which objects are found is closed under references. How far objects are: what the reference's Dist has; plain. -/
import Derived.Test.YtjphckfbbiehdaaGIdealPlays11
import Derived.Test.YtjphckfbbiehdaaGIdealPlays3
set_option linter.unusedSimpArgs false
set_option linter.unusedVariables false
namespace Go.Proofs.Ytjphckfbbiehdaa
open Go.RowKit

def upTo (d : List Int) (k : Nat) : List Int := ((List.range k).filter fun (i : Nat) => decide (0 ≤ d.getD i 0)).map fun (i : Nat) => (i : Int)
theorem upTo_succ (d : List Int) (k : Nat) : upTo d (k + 1) = upTo d k ++ if 0 ≤ d.getD k 0 then [(k : Int)] else [] := by
  unfold upTo
  rw [List.range_succ, List.filter_append, List.map_append]
  congr 1
  by_cases h : 0 ≤ d.getD k 0
  · rw [if_pos h, List.filter_cons_of_pos (by simpa using h)]; rfl
  · rw [if_neg h, List.filter_cons_of_neg (by simpa using h)]; rfl
theorem upTo_len (d : List Int) (k : Nat) : (upTo d k).length ≤ k := by
  unfold upTo
  rw [List.length_map]
  have := List.length_filter_le (fun (i : Nat) => decide (0 ≤ d.getD i 0)) (List.range k)
  simpa using this
theorem distR_len (gs : List (List Val)) (vs : List Val) : (distR gs vs).length = gs.length := by unfold distR; rw [dTurns_len, d0_len]

set_option maxRecDepth 100000 in
set_option maxHeartbeats 4000000 in
theorem reach_any (w : World) (v : Value) (fss : List (List Val)) (roots : List Val) (h : GraphRd w (fun _ => True) v fss roots) (hn : fss.length ≤ 1000) (hr : roots.length ≤ 1000) (hf : ∀ fs ∈ fss, fs.length ≤ 1000) :
    Calls Try.prog 191 #[v] w fun e w' => ∃ A n c, e = .returned (.slice A n c) ∧ Sep No w w' [rowI 3 1 A n c (ints (reachR fss roots))] := by
  have h0 := h
  obtain ⟨AO, nO, cO, AR, nR, cR, obs, rfl, hO, h3, hR⟩ := h.ex
  have hlen : fss.length = nO := by rw [← h3, List.length_map]; exact hO.len
  have HLEN := hide hlen
  have HS0 := hide ((Sep.nil No w).blkAt 27 #[.slice AO nO cO, .slice AR nR cR] rfl)
  obtain ⟨a1, a2, a3, a4⟩ := HS0.out.rules 0 (g := w.heap.size) (t := 27) rfl
  have C := hide (dist_any (w.alloc (.cells #[.slice AO nO cO, .slice AR nR cR] 27)) _ fss roots (h0.below HS0.out.below_) hn hr hf)
  rw [hlen] at C hn
  have HDL := hide (show (distR fss roots).length = nO from by rw [distR_len]; exact hlen)
  have HRR := hide (show reachR fss roots = upTo (distR fss roots) nO from by unfold reachR upTo; rw [hlen])
  obtain ⟨d, hd⟩ : ∃ d, distR fss roots = d := ⟨_, rfl⟩
  rw [hd] at C HDL HRR
  clear h h0 hO h3 hR hr hf hlen hd
  go_enter Try.func191, Try.ntmps191
  go_wp2_with fail
  refine C.out.mono ?_
  rintro e w1 ⟨A1, c1, rfl, hP⟩
  have hS1 := ((HS0.out.snocNew hP.below_ _ (hP.get 0 rfl) (fun g hg => (hP.lo 0 rfl g hg).resolve_left (fun h => h))).nilRow0 3 1)
  have HS1 := hide hS1
  clear a1 a2 a3 a4 hS1 HS0 hP C
  go_wp2_with fail
  go_loopw [3, 9] (fun s3 s wr => ∃ (k m : Nat) (A : Option Addr) (c : Nat), k ≤ nO ∧ s = .int .i64 k ∧ s3 = .slice A m c ∧ m ≤ k ∧ Sep No w wr [rowI 3 1 A m c (ints (upTo d k)), blkI w.heap.size 27 #[.slice AO nO cO, .slice AR nR cR], rowI 3 1 A1 nO c1 (ints d)]) (fun _ s _ => nO - (intOf s).toNat)
  case atStart => exact ⟨0, 0, none, 0, by omega, rfl, rfl, by omega, HS1.out⟩
  case round =>
    clear HS1
    obtain ⟨k, m, A, c, hk, rfl, rfl, hm, hS⟩ := hrel
    by_cases hlt : k < nO
    · have hkl : k < d.length := by rw [HDL.out]; exact hlt
      obtain ⟨ad, hA, _, had, hc⟩ := (hS.rd_ 2 rfl).at_ hlt
      have e0 := hc (.int .i64 d[k]) (by simp [ints, List.getElem?_eq_getElem hkl])
      have HU := hide (upTo_succ d k)
      rw [getD_get hkl] at HU
      obtain ⟨y, hy⟩ : ∃ y, d[k] = y := ⟨_, rfl⟩
      rw [hy] at e0 HU
      rw [hA]
      have HA := hide hA
      have HS := hide hS
      clear hc hy hA hS
      by_cases h0 : 0 ≤ y
      · have k1 : decide (0 ≤ y) = true := by simp [h0]
        have HU2 := hide (show upTo d (k + 1) = upTo d k ++ [(k : Int)] from by rw [HU.out, if_pos h0])
        have hS := HS.out
        clear h0
        go_wp2_with (first
          | (at_builtin
             refine wpList_app1 (cs := #[.int .i64 k]) rfl (.tmp 16) (.tmp 18) 35 rfl sInt hS 0 (n := m) rfl rfl rfl (by simp) rfl rfl (by omega) ?_
             intro A4 c4 w4 hS4 hC4))
        go_roundw
        case rel => exact ⟨k + 1, m + 1, A4, c4, by omega, by go_num, rfl, by omega, by rw [HU2.out, ints_snoc_, ← HA.out]; exact hS4⟩
        case measure => simp [intOf]; omega
      · have k1 : decide (0 ≤ y) = false := by simp only [h0, decide_false]
        have HU2 := hide (show upTo d (k + 1) = upTo d k from by rw [HU.out, if_neg h0, List.append_nil])
        clear h0
        go_wp2_with fail
        go_roundw
        case rel => exact ⟨k + 1, m, A, c, by omega, by go_num, rfl, by omega, by rw [HU2.out, ← HA.out]; exact HS.out⟩
        case measure => simp [intOf]; omega
    · obtain rfl : k = nO := by omega
      have HS := hide hS
      clear hS
      go_wp2_with fail
      go_ret
      exact ⟨A, m, c, rfl, by rw [HRR.out]; exact HS.out.sub (by simp)⟩

end Go.Proofs.Ytjphckfbbiehdaa

namespace Go.Proofs.Ytjphckfbbiehdaa

theorem seen1_mem (l : List Int) (v : Val) (h : v.1 = true) : v.2 ∈ seen1 l v := by
  unfold seen1
  by_cases h2 : v.2 ∈ l
  · rw [if_neg (by rintro ⟨_, h3⟩; exact h3 h2)]; exact h2
  · rw [if_pos ⟨h, h2⟩]; simp
theorem seenAll_mem (vs : List Val) : ∀ (l : List Int) (v : Val), v ∈ vs → v.1 = true → v.2 ∈ seenAll l vs := by
  induction vs with
  | nil => intro l v h; simp at h
  | cons a vs ih =>
    intro l v h h1
    rw [seenAll_cons]
    rcases List.mem_cons.1 h with rfl | h2
    · exact (seenAll_pre _ _).subset (seen1_mem _ _ h1)
    · exact ih _ v h2 h1
theorem bfs_closed {gs : List (List Val)} {n : Nat} (hg : ∀ fs ∈ gs, ValsOk n fs) (f : Nat) : ∀ (k : Nat) (l : List Int), n ≤ f + k → OrdOk n l → (∀ j, (hj : j < l.length) → j < k → ∀ v ∈ fieldsI gs l[j], v.1 = true → v.2 ∈ l) →
    ∀ x ∈ bfs gs f k l, ∀ v ∈ fieldsI gs x, v.1 = true → v.2 ∈ bfs gs f k l := by
  induction f with
  | zero =>
    intro k l hn hok hcl x hx v hv h1
    have hx' : x ∈ l := hx
    obtain ⟨j, hj, rfl⟩ := List.mem_iff_getElem.1 hx'
    have := hok.len
    exact hcl j hj (by omega) v hv h1
  | succ f ih =>
    intro k l hn hok hcl x hx v hv h1
    unfold bfs at hx ⊢
    split at hx
    · rename_i hlt
      rw [if_pos hlt]
      have hgd : l.getD k 0 = l[k] := by rw [List.getD_eq_getElem?_getD, List.getElem?_eq_getElem hlt]; rfl
      rw [hgd] at hx ⊢
      refine ih (k + 1) _ (by omega) (hok.seenAll (fieldsI_ok hg _)) (fun j hj hjk u hu h2 => ?_) x hx v hv h1
      have hjl : j < l.length := by omega
      have he : (seenAll l (fieldsI gs l[k]))[j] = l[j] := (List.IsPrefix.getElem (seenAll_pre l (fieldsI gs l[k])) hjl).symm
      rw [he] at hu
      rcases Nat.lt_or_ge j k with h3 | h3
      · exact (seenAll_pre _ _).subset (hcl j hjl h3 u hu h2)
      · obtain rfl : j = k := by omega
        exact seenAll_mem _ _ _ hu h2
    · rename_i hlt
      rw [if_neg hlt]
      obtain ⟨j, hj, rfl⟩ := List.mem_iff_getElem.1 hx
      exact hcl j hj (by omega) v hv h1
theorem order_closed {gs : List (List Val)} {vs : List Val} (hg : ∀ fs ∈ gs, ValsOk gs.length fs) (hv : ValsOk gs.length vs) : (∀ x ∈ order gs vs, ∀ v ∈ fieldsI gs x, v.1 = true → v.2 ∈ order gs vs) ∧ (∀ v ∈ vs, v.1 = true → v.2 ∈ order gs vs) :=
  ⟨bfs_closed hg _ _ _ (by omega) ((OrdOk.nil _).seenAll hv) (fun j _ h => by omega), fun v hv' h1 => (bfs_pre _ _ _ _).subset (seenAll_mem _ _ _ hv' h1)⟩

end Go.Proofs.Ytjphckfbbiehdaa

namespace Go.Proofs.Ytjphckfbbiehdaa

inductive Lev (gs : List (List Val)) (vs : List Val) : Nat → Int → Prop
  | root (i : Int) : (true, i) ∈ vs → Lev gs vs 0 i
  | step (k : Nat) (i j : Int) : Lev gs vs k i → (true, j) ∈ fieldsI gs i → Lev gs vs (k + 1) j
theorem refers_iff (vs : List Val) (i : Int) : refers vs i = true ↔ (true, i) ∈ vs := by
  unfold refers
  rw [List.any_eq_true]
  constructor
  · rintro ⟨⟨b, x⟩, hv, h⟩
    simp only [Bool.and_eq_true, beq_iff_eq] at h
    obtain ⟨rfl, rfl⟩ := h
    exact hv
  · intro h
    exact ⟨_, h, by simp⟩
/-- What a turn does. -/
structure Grw (gs : List (List Val)) (t : Nat) (d d' : List Int) : Prop where
  len : d'.length = d.length
  keep : ∀ j : Nat, 0 ≤ d.getD j 0 → d'.getD j 0 = d.getD j 0
  new : ∀ j : Nat, d.getD j 0 < 0 → d'.getD j 0 = d.getD j 0 ∨ (d'.getD j 0 = (t : Int) + 1 ∧ ∃ i : Nat, i < gs.length ∧ d.getD i 0 = (t : Int) ∧ refers (fieldsI gs (i : Int)) (j : Int) = true)
theorem Grw.refl (gs : List (List Val)) (t : Nat) (d : List Int) : Grw gs t d d := ⟨rfl, fun _ _ => rfl, fun _ _ => .inl rfl⟩
theorem Grw.back {gs : List (List Val)} {t : Nat} {d d' : List Int} (h : Grw gs t d d') {i : Nat} (hi : d'.getD i 0 = (t : Int)) : d.getD i 0 = (t : Int) := by
  by_cases h0 : 0 ≤ d.getD i 0
  · rw [← h.keep i h0]; exact hi
  · rcases h.new i (by omega) with h1 | ⟨h1, _⟩ <;> omega
theorem Grw.trans {gs : List (List Val)} {t : Nat} {a b c : List Int} (h : Grw gs t a b) (k : Grw gs t b c) : Grw gs t a c := by
  refine ⟨k.len.trans h.len, fun j hj => ?_, fun j hj => ?_⟩
  · have h1 := h.keep j hj
    rw [k.keep j (by omega), h1]
  · rcases h.new j hj with h1 | ⟨h1, h2⟩
    · rcases k.new j (by omega) with h3 | ⟨h3, i, hi, hit, hr⟩
      · exact .inl (h3.trans h1)
      · exact .inr ⟨h3, i, hi, h.back hit, hr⟩
    · refine .inr ⟨?_, h2⟩
      rw [k.keep j (by omega), h1]
theorem getD_set_ {d : List Int} {j k : Nat} {x : Int} (hk : k < d.length) : (d.set k x).getD j 0 = if j = k then x else d.getD j 0 := by
  rw [List.getD_eq_getElem?_getD, List.getElem?_set]
  by_cases e : k = j
  · subst e; simp [hk]
  · rw [if_neg e, if_neg (Ne.symm e), ← List.getD_eq_getElem?_getD]
theorem neg_lt {d : List Int} {j : Nat} (h : d.getD j 0 < 0) : j < d.length := by
  rcases Nat.lt_or_ge j d.length with h1 | h1
  · exact h1
  · rw [List.getD_eq_getElem?_getD, List.getElem?_eq_none h1] at h; simp at h
theorem Grw.look {gs : List (List Val)} {t i : Nat} {d : List Int} (hi : i < gs.length) (hit : d.getD i 0 = (t : Int)) (j : Nat) : Grw gs t d (dLook gs t i d j) := by
  unfold dLook
  split
  · rename_i hc
    have hj := neg_lt hc.1
    refine ⟨by simp, fun x hx => ?_, fun x hx => ?_⟩
    · rw [getD_set_ hj, if_neg (by rintro rfl; omega)]
    · rw [getD_set_ hj]
      by_cases e : x = j
      · subst e; rw [if_pos rfl]; exact .inr ⟨rfl, i, hi, hit, hc.2⟩
      · rw [if_neg e]; exact .inl rfl
  · exact .refl _ _ _
theorem Grw.looks {gs : List (List Val)} {t i : Nat} (hi : i < gs.length) (js : List Nat) : ∀ d : List Int, d.getD i 0 = (t : Int) → Grw gs t d (js.foldl (dLook gs t i) d) ∧ ∀ j ∈ js, refers (fieldsI gs (i : Int)) (j : Int) = true → 0 ≤ (js.foldl (dLook gs t i) d).getD j 0 := by
  induction js with
  | nil => intro d _; exact ⟨.refl _ _ _, by simp⟩
  | cons a js ih =>
    intro d hit
    have h1 := Grw.look hi hit a
    obtain ⟨h2, h3⟩ := ih (dLook gs t i d a) (dLook_keep a hit)
    refine ⟨h1.trans h2, fun j hj hr => ?_⟩
    rcases List.mem_cons.1 hj with rfl | hj
    · have h4 : 0 ≤ (dLook gs t i d j).getD j 0 := by
        unfold dLook
        by_cases h5 : d.getD j 0 < 0
        · rw [if_pos ⟨h5, hr⟩, getD_set_ (neg_lt h5), if_pos rfl]; omega
        · rw [if_neg (fun h => h5 h.1)]; omega
      rw [List.foldl_cons, h2.keep j h4]; exact h4
    · exact h3 j hj hr
theorem Grw.froms {gs : List (List Val)} {t : Nat} (is_ : List Nat) : ∀ d : List Int, (∀ i ∈ is_, i < gs.length) → Grw gs t d (is_.foldl (dFrom gs t) d) ∧ ∀ i ∈ is_, d.getD i 0 = (t : Int) → ∀ j : Nat, j < gs.length → refers (fieldsI gs (i : Int)) (j : Int) = true → 0 ≤ (is_.foldl (dFrom gs t) d).getD j 0 := by
  induction is_ with
  | nil => intro d _; exact ⟨.refl _ _ _, by simp⟩
  | cons a js ih =>
    intro d hlt
    have ha := hlt a (by simp)
    have h1 : Grw gs t d (dFrom gs t d a) := by
      unfold dFrom
      split
      · exact (Grw.looks ha _ d (by assumption)).1
      · exact .refl _ _ _
    obtain ⟨h2, h3⟩ := ih (dFrom gs t d a) (fun i hi => hlt i (by simp [hi]))
    refine ⟨h1.trans h2, fun i hi hit j hj hr => ?_⟩
    rcases List.mem_cons.1 hi with rfl | hi
    · have h4 : 0 ≤ (dFrom gs t d i).getD j 0 := by
        unfold dFrom
        rw [if_pos hit]
        exact (Grw.looks ha _ d hit).2 j (List.mem_range.2 hj) hr
      rw [List.foldl_cons, h2.keep j h4]; exact h4
    · exact h3 i hi (by rw [h1.keep i (by omega)]; exact hit) j hj hr
theorem Grw.turn {gs : List (List Val)} {t : Nat} (d : List Int) : Grw gs t d (dTurn gs d t) ∧ ∀ i : Nat, i < gs.length → d.getD i 0 = (t : Int) → ∀ j : Nat, j < gs.length → refers (fieldsI gs (i : Int)) (j : Int) = true → 0 ≤ (dTurn gs d t).getD j 0 := by
  obtain ⟨h1, h2⟩ := Grw.froms (gs := gs) (t := t) (List.range gs.length) d (fun i hi => List.mem_range.1 hi)
  exact ⟨h1, fun i hi => h2 i (List.mem_range.2 hi)⟩

/-- What holds behind t turns. -/
structure DInv (gs : List (List Val)) (vs : List Val) (t : Nat) (d : List Int) : Prop where
  len : d.length = gs.length
  rng : ∀ i : Nat, d.getD i 0 = -1 ∨ (0 ≤ d.getD i 0 ∧ d.getD i 0 ≤ (t : Int))
  root : ∀ i : Nat, i < gs.length → (true, (i : Int)) ∈ vs → d.getD i 0 = 0
  lev : ∀ i : Nat, i < gs.length → 0 ≤ d.getD i 0 → Lev gs vs (d.getD i 0).toNat (i : Int)
  nxt : ∀ i : Nat, i < gs.length → 0 ≤ d.getD i 0 → d.getD i 0 < (t : Int) → ∀ j : Nat, j < gs.length → (true, (j : Int)) ∈ fieldsI gs (i : Int) → 0 ≤ d.getD j 0 ∧ d.getD j 0 ≤ d.getD i 0 + 1
  prv : ∀ i : Nat, i < gs.length → 0 < d.getD i 0 → ∃ j : Nat, j < gs.length ∧ d.getD j 0 = d.getD i 0 - 1
theorem DInv.zero (gs : List (List Val)) (vs : List Val) : DInv gs vs 0 (d0 gs vs) := by
  have e : ∀ i : Nat, i < gs.length → (d0 gs vs).getD i 0 = if refers vs (i : Int) = true then 0 else -1 := fun i hi => by
    rw [getD_get (by rw [d0_len]; exact hi)]; simp [d0]
  refine ⟨d0_len _ _, fun i => ?_, fun i hi h => ?_, fun i hi h => ?_, fun i hi h h2 => ?_, fun i hi h => ?_⟩
  · rcases Nat.lt_or_ge i gs.length with h | h
    · rw [e i h]; split <;> simp
    · rw [List.getD_eq_getElem?_getD, List.getElem?_eq_none (by rw [d0_len]; exact h)]; simp
  · rw [e i hi, if_pos ((refers_iff _ _).2 h)]
  · rw [e i hi] at h ⊢
    split at h
    · rename_i h1
      rw [if_pos h1]
      exact .root _ ((refers_iff _ _).1 h1)
    · omega
  · omega
  · rw [e i hi] at h
    split at h <;> omega
theorem DInv.turn {gs : List (List Val)} {vs : List Val} {t : Nat} {d : List Int} (h : DInv gs vs t d) : DInv gs vs (t + 1) (dTurn gs d t) := by
  obtain ⟨hg, hc⟩ := Grw.turn (gs := gs) (t := t) d
  generalize dTurn gs d t = d' at *
  refine ⟨hg.len.trans h.len, fun i => ?_, fun i hi hr => ?_, fun i hi h0 => ?_, fun i hi h0 h1 j hj hr => ?_, fun i hi h0 => ?_⟩
  · rcases h.rng i with h1 | ⟨h1, h2⟩
    · rcases hg.new i (by omega) with h3 | ⟨h3, _⟩
      · exact .inl (h3.trans h1)
      · exact .inr (by omega)
    · rw [hg.keep i h1]; exact .inr (by omega)
  · have := h.root i hi hr
    rw [hg.keep i (by omega)]; exact this
  · by_cases h1 : 0 ≤ d.getD i 0
    · rw [hg.keep i h1]; exact h.lev i hi h1
    · rcases hg.new i (by omega) with h3 | ⟨h3, x, hx, hxt, hr⟩
      · omega
      · rw [h3]
        have := h.lev x hx (by omega)
        rw [hxt] at this
        have h9 := Lev.step _ _ _ this ((refers_iff _ _).1 hr)
        rw [show ((t : Int) + 1).toNat = (t : Int).toNat + 1 from by omega]
        exact h9
  · have hi0 : 0 ≤ d.getD i 0 := by
      by_cases h2 : 0 ≤ d.getD i 0
      · exact h2
      · rcases hg.new i (by omega) with h3 | ⟨h3, _⟩ <;> omega
    have hik := hg.keep i hi0
    rw [hik] at h0 h1 ⊢
    by_cases h2 : d.getD i 0 < (t : Int)
    · obtain ⟨h3, h4⟩ := h.nxt i hi hi0 h2 j hj hr
      rw [hg.keep j h3]; exact ⟨h3, h4⟩
    · have hit : d.getD i 0 = (t : Int) := by omega
      have h5 := hc i hi hit j hj ((refers_iff _ _).2 hr)
      refine ⟨h5, ?_⟩
      by_cases h6 : 0 ≤ d.getD j 0
      · rw [hg.keep j h6]
        rcases h.rng j with h7 | h7 <;> omega
      · rcases hg.new j (by omega) with h7 | ⟨h7, _⟩ <;> omega
  · by_cases h1 : 0 ≤ d.getD i 0
    · rw [hg.keep i h1] at h0 ⊢
      obtain ⟨j, hj, hj2⟩ := h.prv i hi h0
      exact ⟨j, hj, by rw [hg.keep j (by omega)]; exact hj2⟩
    · rcases hg.new i (by omega) with h3 | ⟨h3, x, hx, hxt, _⟩
      · omega
      · exact ⟨x, hx, by rw [hg.keep x (by omega), hxt, h3]; omega⟩
theorem DInv.turns (gs : List (List Val)) (vs : List Val) (t : Nat) : DInv gs vs t ((List.range t).foldl (dTurn gs) (d0 gs vs)) := by
  induction t with
  | zero => exact DInv.zero gs vs
  | succ t ih => rw [range_snoc_fold]; exact ih.turn
theorem DInv.lt {gs : List (List Val)} {vs : List Val} {d : List Int} (h : DInv gs vs gs.length d) (i : Nat) (hi : i < gs.length) : d.getD i 0 < (gs.length : Int) := by
  rcases (show d.getD i 0 < (gs.length : Int) ∨ (gs.length : Int) ≤ d.getD i 0 by omega) with h1 | h1
  · exact h1
  exfalso
  have hn : d.getD i 0 = (gs.length : Int) := by rcases h.rng i with h2 | h2 <;> omega
  have key : ∀ s : Nat, s ≤ gs.length → ∃ j : Nat, j < gs.length ∧ d.getD j 0 = ((gs.length - s : Nat) : Int) := by
    intro s
    induction s with
    | zero => intro _; exact ⟨i, hi, by simpa using hn⟩
    | succ s ih =>
      intro hs
      obtain ⟨j, hj, hjd⟩ := ih (by omega)
      obtain ⟨x, hx, hxd⟩ := h.prv j hj (by omega)
      exact ⟨x, hx, by omega⟩
  have key2 : ∀ s : Nat, ∃ j : Nat, s ≤ gs.length → j < gs.length ∧ d.getD j 0 = (s : Int) := fun s => by
    by_cases hs : s ≤ gs.length
    · obtain ⟨j, hj, hjd⟩ := key (gs.length - s) (by omega)
      exact ⟨j, fun _ => ⟨hj, by omega⟩⟩
    · exact ⟨0, fun h => absurd h hs⟩
  have hf : ∃ f : Nat → Nat, ∀ s, s ≤ gs.length → f s < gs.length ∧ d.getD (f s) 0 = (s : Int) := ⟨fun s => Classical.choose (key2 s), fun s => Classical.choose_spec (key2 s)⟩
  obtain ⟨f, hf⟩ := hf
  have := nodup_len ((List.range (gs.length + 1)).map fun s => (f s : Int)) gs.length (by
    rw [List.nodup_iff_pairwise_ne, List.pairwise_map]
    refine List.Pairwise.imp_of_mem ?_ List.nodup_range
    intro a b ha hb hne e
    have h1 := (hf a (by have := List.mem_range.1 ha; omega)).2
    have h2 := (hf b (by have := List.mem_range.1 hb; omega)).2
    have e2 : f a = f b := by omega
    rw [e2] at h1
    omega) (fun x hx => by
    obtain ⟨s, hs, rfl⟩ := List.mem_map.1 hx
    have := (hf s (by have := List.mem_range.1 hs; omega)).1
    omega)
  simp at this
  omega

/-- What makes out a row of distances. -/
structure DistOk (gs : List (List Val)) (vs : List Val) (d : List Int) : Prop where
  len : d.length = gs.length
  neg : ∀ i : Nat, d.getD i 0 = -1 ∨ 0 ≤ d.getD i 0
  lev : ∀ i : Nat, i < gs.length → 0 ≤ d.getD i 0 → Lev gs vs (d.getD i 0).toNat (i : Int)
  min_ : ∀ (k : Nat) (i : Int), Lev gs vs k i → 0 ≤ i ∧ i < gs.length ∧ 0 ≤ d.getD i.toNat 0 ∧ d.getD i.toNat 0 ≤ (k : Int)
theorem distR_ok {gs : List (List Val)} {vs : List Val} (hg : ∀ fs ∈ gs, ValsOk gs.length fs) (hv : ValsOk gs.length vs) : DistOk gs vs (distR gs vs) := by
  have h : DInv gs vs gs.length (distR gs vs) := DInv.turns gs vs gs.length
  refine ⟨h.len, fun i => (h.rng i).imp id (·.1), h.lev, fun k i hl => ?_⟩
  induction hl with
  | root i hi =>
    obtain ⟨a, b⟩ := hv _ hi rfl
    dsimp only at a b
    refine ⟨a, b, ?_⟩
    have := h.root i.toNat (by omega) (by rw [show ((i.toNat : Nat) : Int) = i from by omega]; exact hi)
    omega
  | step k i j _ hj ih =>
    obtain ⟨a, b, c, e⟩ := ih
    obtain ⟨a', b'⟩ := fieldsI_ok hg i _ hj rfl
    dsimp only at a' b'
    refine ⟨a', b', ?_⟩
    have h1 := h.lt i.toNat (by omega)
    have := h.nxt i.toNat (by omega) c h1 j.toNat (by omega) (by
      rw [show ((i.toNat : Nat) : Int) = i from by omega, show ((j.toNat : Nat) : Int) = j from by omega]; exact hj)
    omega
theorem DistOk.uniq {gs : List (List Val)} {vs : List Val} {d d' : List Int} (h : DistOk gs vs d) (h' : DistOk gs vs d') : d = d' := by
  refine List.ext_getElem (h.len.trans h'.len.symm) fun i h1 h2 => ?_
  have hi : i < gs.length := by rw [← h.len]; exact h1
  rw [← getD_get h1, ← getD_get h2]
  have key : ∀ {a b : List Int}, DistOk gs vs a → DistOk gs vs b → 0 ≤ a.getD i 0 → 0 ≤ b.getD i 0 ∧ b.getD i 0 ≤ a.getD i 0 := fun {a b} ha hb h0 => by
    have := (hb.min_ _ _ (ha.lev i hi h0)).2.2
    rw [show ((i : Int)).toNat = i from by omega] at this
    omega
  rcases h.neg i with h3 | h3 <;> rcases h'.neg i with h4 | h4
  · omega
  · have := key h' h h4; omega
  · have := key h h' h3; omega
  · have := key h h' h3; have := key h' h h4; omega
theorem mem_reachR {gs : List (List Val)} {vs : List Val} (hg : ∀ fs ∈ gs, ValsOk gs.length fs) (hv : ValsOk gs.length vs) (x : Int) : x ∈ reachR gs vs ↔ ∃ k, Lev gs vs k x := by
  have h := distR_ok hg hv
  unfold reachR
  rw [List.mem_map]
  constructor
  · rintro ⟨i, hi, rfl⟩
    obtain ⟨h1, h2⟩ := List.mem_filter.1 hi
    exact ⟨_, h.lev i (List.mem_range.1 h1) (by simpa using h2)⟩
  · rintro ⟨k, hk⟩
    obtain ⟨a, b, c, _⟩ := h.min_ k x hk
    exact ⟨x.toNat, List.mem_filter.2 ⟨List.mem_range.2 (by omega), by simpa using c⟩, by omega⟩
theorem mem_order {gs : List (List Val)} {vs : List Val} (hg : ∀ fs ∈ gs, ValsOk gs.length fs) (hv : ValsOk gs.length vs) (x : Int) : x ∈ order gs vs ↔ ∃ k, Lev gs vs k x := by
  constructor
  · have key1 : ∀ (us : List Val) (l : List Int) (k : Nat), (∀ v ∈ us, v.1 = true → Lev gs vs k v.2) → (∀ y ∈ l, ∃ k, Lev gs vs k y) → ∀ y ∈ seenAll l us, ∃ k, Lev gs vs k y := by
      intro us
      induction us with
      | nil => intro l k _ hl; exact hl
      | cons a us ih =>
        intro l k hu hl
        refine ih (seen1 l a) k (fun v hv => hu v (by simp [hv])) (fun y hy => ?_)
        unfold seen1 at hy
        split at hy
        · rename_i hc
          rcases List.mem_append.1 hy with h1 | h1
          · exact hl y h1
          · simp at h1; subst h1; exact ⟨k, hu a (by simp) hc.1⟩
        · exact hl y hy
    have key2 : ∀ (f k : Nat) (l : List Int), (∀ y ∈ l, ∃ k, Lev gs vs k y) → ∀ y ∈ bfs gs f k l, ∃ k, Lev gs vs k y := by
      intro f
      induction f with
      | zero => intro k l hl; exact hl
      | succ f ih =>
        intro k l hl y hy
        unfold bfs at hy
        split at hy
        · rename_i hlt
          rw [getD_get hlt] at hy
          obtain ⟨q, hq⟩ := hl _ (List.getElem_mem hlt)
          exact ih _ _ (key1 _ l (q + 1) (fun v hv h1 => by
            obtain ⟨b, z⟩ := v
            dsimp only at h1
            subst h1
            exact .step _ _ _ hq hv) hl) y hy
        · exact hl y hy
    exact key2 _ _ _ (key1 _ [] 0 (fun v hv h1 => by
      obtain ⟨b, z⟩ := v
      dsimp only at h1
      subst h1
      exact .root _ hv) (by simp)) x
  · rintro ⟨k, hk⟩
    obtain ⟨h1, h2⟩ := order_closed hg hv
    induction hk with
    | root i hi => exact h2 _ hi rfl
    | step k i j _ hj ih => exact h1 _ ih _ hj rfl
end Go.Proofs.Ytjphckfbbiehdaa
