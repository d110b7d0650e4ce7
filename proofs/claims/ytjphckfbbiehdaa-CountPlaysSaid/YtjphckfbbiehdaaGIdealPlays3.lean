/- The order in which objects are found: plain. The reference's place, turned, Order. The reference's Order. -/
import Derived.Test.YtjphckfbbiehdaaGIdealPlays1
import Derived.Test.YtjphckfbbiehdaaGIdealPlays2
set_option linter.unusedSimpArgs false
set_option linter.unusedVariables false
namespace Go.Proofs.Ytjphckfbbiehdaa

theorem nodup_sum {α : Type} [DecidableEq α] (f : α → Nat) (l m : List α) (hn : l.Nodup) (hs : ∀ x ∈ l, x ∈ m) : (l.map f).sum ≤ (m.map f).sum := by
  induction l generalizing m with
  | nil => simp
  | cons a l ih =>
    obtain ⟨h1, h2⟩ := List.nodup_cons.1 hn
    have hp := ((List.perm_cons_erase (hs a (by simp))).map f).sum_nat
    have h3 := ih (m.erase a) h2 (fun x hx => (List.mem_erase_of_ne (by rintro rfl; exact h1 hx)).2 (hs x (by simp [hx])))
    simp only [List.map_cons, List.sum_cons] at hp ⊢
    omega
theorem nodup_len (l : List Int) (n : Nat) (hn : l.Nodup) (hs : ∀ x ∈ l, 0 ≤ x ∧ x < (n : Int)) : l.length ≤ n := by
  have h := nodup_sum (fun _ => 1) l ((List.range n).map Int.ofNat) hn (fun x hx => by
    obtain ⟨a, b⟩ := hs x hx
    exact List.mem_map.2 ⟨x.toNat, List.mem_range.2 (by omega), by show ((x.toNat : Nat) : Int) = x; omega⟩)
  have e : ∀ m : List Int, (m.map (fun _ => 1)).sum = m.length := fun m => by
    induction m with
    | nil => rfl
    | cons a m ih => simp only [List.map_cons, List.sum_cons, List.length_cons, ih]; omega
  rw [e, e] at h
  simpa using h

def seen1 (l : List Int) (v : Val) : List Int := if v.1 = true ∧ v.2 ∉ l then l ++ [v.2] else l
def seenAll (l : List Int) (vs : List Val) : List Int := vs.foldl seen1 l
def fieldsI (gs : List (List Val)) (x : Int) : List Val := gs.getD x.toNat []
def bfs (gs : List (List Val)) : Nat → Nat → List Int → List Int
  | 0, _, l => l
  | f + 1, k, l => if k < l.length then bfs gs f (k + 1) (seenAll l (fieldsI gs (l.getD k 0))) else l
def order (gs : List (List Val)) (vs : List Val) : List Int := bfs gs gs.length 0 (seenAll [] vs)
def ValsOk (n : Nat) (vs : List Val) : Prop := ∀ v ∈ vs, v.1 = true → 0 ≤ v.2 ∧ v.2 < (n : Int)
structure OrdOk (n : Nat) (l : List Int) : Prop where
  nodup : l.Nodup
  rng : ∀ x ∈ l, 0 ≤ x ∧ x < (n : Int)
theorem OrdOk.len {n : Nat} {l : List Int} (h : OrdOk n l) : l.length ≤ n := nodup_len l n h.nodup h.rng
theorem OrdOk.nil (n : Nat) : OrdOk n [] := ⟨List.nodup_nil, by simp⟩
theorem OrdOk.seen1 {n : Nat} {l : List Int} (h : OrdOk n l) {v : Val} (hv : v.1 = true → 0 ≤ v.2 ∧ v.2 < (n : Int)) : OrdOk n (seen1 l v) := by
  unfold Go.Proofs.Ytjphckfbbiehdaa.seen1
  split
  · rename_i hc
    refine ⟨List.nodup_append.2 ⟨h.nodup, by simp, fun a ha b hb => by simp at hb; subst hb; rintro rfl; exact hc.2 ha⟩, fun x hx => ?_⟩
    rcases List.mem_append.1 hx with h1 | h1
    · exact h.rng x h1
    · simp at h1; subst h1; exact hv hc.1
  · exact h
theorem OrdOk.seenAll {n : Nat} {l : List Int} (h : OrdOk n l) {vs : List Val} (hv : ValsOk n vs) : OrdOk n (seenAll l vs) := by
  unfold Go.Proofs.Ytjphckfbbiehdaa.seenAll
  induction vs generalizing l with
  | nil => exact h
  | cons a vs ih => exact ih (h.seen1 (hv a (by simp))) (fun v hv' => hv v (by simp [hv']))
theorem fieldsI_ok {gs : List (List Val)} {n : Nat} (hg : ∀ fs ∈ gs, ValsOk n fs) (x : Int) : ValsOk n (fieldsI gs x) := by
  unfold fieldsI
  rw [List.getD_eq_getElem?_getD]
  cases h : gs[x.toNat]? with
  | none => intro v hv; simp at hv
  | some fs => exact hg fs (List.mem_of_getElem? h)
theorem OrdOk.bfs {gs : List (List Val)} {n : Nat} (hg : ∀ fs ∈ gs, ValsOk n fs) (f : Nat) {k : Nat} {l : List Int} (h : OrdOk n l) : OrdOk n (bfs gs f k l) := by
  induction f generalizing k l with
  | zero => exact h
  | succ f ih =>
    unfold Go.Proofs.Ytjphckfbbiehdaa.bfs
    split
    · exact ih (h.seenAll (fieldsI_ok hg _))
    · exact h
theorem seen1_pre (l : List Int) (v : Val) : l <+: seen1 l v := by
  unfold seen1
  split
  · exact List.prefix_append _ _
  · exact List.prefix_refl _
theorem seenAll_pre (l : List Int) (vs : List Val) : l <+: seenAll l vs := by
  unfold seenAll
  induction vs generalizing l with
  | nil => exact List.prefix_refl _
  | cons a vs ih => exact (seen1_pre l a).trans (ih _)
theorem bfs_pre (gs : List (List Val)) (f k : Nat) (l : List Int) : l <+: bfs gs f k l := by
  induction f generalizing k l with
  | zero => exact List.prefix_refl _
  | succ f ih =>
    unfold bfs
    split
    · exact (seenAll_pre _ _).trans (ih _ _)
    · exact List.prefix_refl _
theorem order_ok {gs : List (List Val)} {vs : List Val} (hg : ∀ fs ∈ gs, ValsOk gs.length fs) (hv : ValsOk gs.length vs) : OrdOk gs.length (order gs vs) := ((OrdOk.nil _).seenAll hv).bfs hg _
theorem bfs_end (gs : List (List Val)) (f k : Nat) (l : List Int) (h : l.length ≤ k) : bfs gs f k l = l := by
  cases f with
  | zero => rfl
  | succ f => unfold bfs; rw [if_neg (by omega)]
theorem bfs_step (gs : List (List Val)) (n k : Nat) (l : List Int) (h : k < l.length) (hn : l.length ≤ n) : bfs gs (n - k) k l = bfs gs (n - (k + 1)) (k + 1) (seenAll l (fieldsI gs (l.getD k 0))) := by
  rw [show n - k = (n - (k + 1)) + 1 from by omega]
  conv => lhs; unfold bfs
  rw [if_pos h]
end Go.Proofs.Ytjphckfbbiehdaa

namespace Go.Proofs.Ytjphckfbbiehdaa
open Go.RowKit

def placeN (l : List Int) (x : Int) : Nat := if x ∈ l then l.idxOf x else 0
def turnL (l : List Int) (v : Val) : Val := if v.1 = true then (true, (placeN l v.2 : Int)) else v
theorem idx_first : ∀ (xs : List Int) (k : Nat) (h : k < xs.length), xs[k] ∉ xs.take k → xs.idxOf xs[k] = k := by
  intro xs
  induction xs with
  | nil => intro k h; simp at h
  | cons a xs ih =>
    intro k h hn
    cases k with
    | zero => simp
    | succ k =>
      simp only [List.take_succ_cons, List.mem_cons, not_or, List.getElem_cons_succ] at hn ⊢
      have hk2 : k < xs.length := by simpa using h
      rw [List.idxOf_cons, show (a == xs[k]) = false from by rw [beq_eq_false_iff_ne]; exact fun e => hn.1 e.symm, cond_false, ih k (by simpa using h) hn.2]
theorem seenAll_snoc (l : List Int) (vs : List Val) (v : Val) : seenAll l (vs ++ [v]) = seen1 (seenAll l vs) v := by simp [seenAll]
theorem seen1_no (l : List Int) (b : Bool) (x : Int) (h : b = false ∨ x ∈ l) : seen1 l (b, x) = l := by
  unfold seen1; rw [if_neg]; rintro ⟨h1, h2⟩; rcases h with h | h
  · rw [h] at h1; cases h1
  · exact h2 h
theorem seen1_yes (l : List Int) (x : Int) (h : x ∉ l) : seen1 l (true, x) = l ++ [x] := by unfold seen1; rw [if_pos ⟨rfl, h⟩]
theorem ValsOk.take {n : Nat} {vs : List Val} (h : ValsOk n vs) (k : Nat) : ValsOk n (vs.take k) := fun v hv => h v (List.mem_of_mem_take hv)

set_option maxHeartbeats 400000 in
theorem placeR_any (w : World) (A : Option Addr) (n c : Nat) (xs : List Int) (x : Int) (hn : n ≤ 1000) (h : Rd w (fun _ => True) 1 A n (ints xs)) :
    Calls Try.prog 235 #[.slice A n c, .int .i64 x] w fun e w' => e = .returned (.int .i64 (placeN xs x)) ∧ w' = w := by
  have HL := hide (show xs.length = n by have := h.1; simpa using this)
  go_enter Try.func235, Try.ntmps235
  go_wp2_with fail
  go_loopw [5] (fun i wr => ∃ k : Nat, k ≤ n ∧ i = .int .i64 k ∧ wr = w ∧ Hid (x ∉ xs.take k)) (fun i _ => n - (intOf i).toNat)
  case atStart => exact ⟨0, by omega, rfl, rfl, by simp [Hid]⟩
  case round =>
    obtain ⟨k, hk, rfl, rfl, HN⟩ := hrel
    by_cases hlt : k < n
    · have hkl : k < xs.length := by rw [HL.out]; exact hlt
      obtain ⟨ad, rfl, _, _, hc⟩ := h.at_ hlt
      have e0 := hc (.int .i64 xs[k]) (by simp [ints, List.getElem?_eq_getElem hkl])
      have HF := hide (idx_first xs k hkl)
      have HM := hide (List.getElem_mem hkl)
      have HT := hide (List.take_succ_eq_append_getElem hkl)
      obtain ⟨y, hy⟩ : ∃ y, xs[k] = y := ⟨_, rfl⟩
      rw [hy] at e0 HF HM HT
      clear hc hy
      by_cases hx : y = x
      · subst hx
        have k1 : (y == y) = true := by simp
        have HR := hide (show placeN xs y = k from by unfold placeN; rw [if_pos HM.out]; exact HF.out HN.out)
        go_wp2_with fail
        go_ret
        rw [HR.out]
        first | exact ⟨rfl, rfl⟩ | exact rfl
      · have k1 : (y == x) = false := by simp [hx]
        have HX := hide hx
        clear hx
        go_wp2_with fail
        go_roundw
        case rel => exact ⟨k + 1, by omega, by go_num, by first | rfl | trivial, by
          show x ∉ _
          rw [HT.out]
          simp only [List.mem_append, List.mem_singleton, not_or]
          exact ⟨HN.out, fun e => HX.out e.symm⟩⟩
        case measure => simp [intOf]; omega
    · have HR := hide (show placeN xs x = 0 from by
        have h1 := HN.out
        rw [List.take_of_length_le (by rw [HL.out]; omega)] at h1
        unfold placeN; rw [if_neg h1])
      go_wp2_with fail
      go_ret
      rw [HR.out]
      first | exact ⟨rfl, rfl⟩ | exact rfl

set_option maxRecDepth 100000 in
set_option maxHeartbeats 4000000 in
theorem turned_any (w : World) (A Al : Option Addr) (n c nl cl : Nat) (vs : List Val) (l : List Int) (hn : n ≤ 1000) (hnl : nl ≤ 1000) (hv : Rd w (fun _ => True) 2 A n (vals vs)) (hl : Rd w (fun _ => True) 1 Al nl (ints l)) :
    Calls Try.prog 206 #[.slice A n c, .slice Al nl cl] w fun e w' => ∃ A' c', e = .returned (.slice A' n c') ∧ Sep No w w' [rowI 107 2 A' n c' (vals (vs.map (turnL l)))] := by
  have HLL := hide (show vs.length = n by have := hv.1; rw [vals_length] at this; omega)
  have HS0 := hide ((Sep.nil No w).nilRow 107 2)
  go_enter Try.func206, Try.ntmps206
  go_wp2_with fail
  go_loopw [5, 10] (fun s5 i wr => ∃ (k : Nat) (A' : Option Addr) (c' : Nat), k ≤ n ∧ i = .int .i64 k ∧ s5 = .slice A' k c' ∧ Sep No w wr [rowI 107 2 A' k c' (vals ((vs.take k).map (turnL l)))]) (fun _ i _ => n - (intOf i).toNat)
  case atStart => exact ⟨0, none, 0, by omega, rfl, rfl, HS0.out⟩
  case round =>
    clear HS0
    obtain ⟨k, A', c', hk, rfl, rfl, hS⟩ := hrel
    by_cases hlt : k < n
    · have hkl : k < vs.length := by rw [HLL.out]; exact hlt
      obtain ⟨ad, hA, _, had, hc, hd⟩ := (hv.below hS.below_).atN hlt
      obtain ⟨v0, v1⟩ := vals_at vs k hkl
      have e0 := hc _ v0
      have e1 := hd 0 _ v1
      have HT := hide (List.take_succ_eq_append_getElem hkl)
      obtain ⟨x, hx⟩ : ∃ x, vs[k] = x := ⟨_, rfl⟩
      rw [hx] at e0 e1 HT
      subst hA
      clear hc hd v0 v1 hx
      obtain ⟨b, m⟩ := x
      dsimp only at e0 e1
      have HbS := hide (fun o => (hS.alloc o).below_)
      cases b with
      | false =>
        have HX := hide (show turnL l (false, m) = (false, m) from rfl)
        go_wp2_with (first
          | (at_builtin
             refine wpList_app1 (cs := #[.bool false, .int .i64 m]) rfl (.tmp 21) (.tmp 23) 25 rfl sVal (hS.alloc _) 0 (n := k) rfl rfl rfl (by simp) rfl rfl (by omega) ?_
             intro A4 c4 w4 hS4 hC4))
        go_roundw
        case rel => exact ⟨k + 1, A4, c4, by omega, by go_num, rfl, by rw [HT.out, List.map_append, List.map_cons, List.map_nil, HX.out, vals_snoc]; exact hS4⟩
        case measure => simp [intOf]; omega
      | true =>
        have HX := hide (show turnL l (true, m) = (true, (placeN l m : Int)) from rfl)
        obtain ⟨q, hq⟩ : ∃ q, placeN l m = q := ⟨_, rfl⟩
        have C := placeR_any (wr.alloc (.cells #[.bool true, .int .i64 m] 107)) Al nl cl l m hnl (hl.below (HbS.out _))
        rw [hq] at C HX
        have HC := hide C
        clear C hq
        go_wp2_with fail
        refine HC.out.mono ?_
        rintro e w3 ⟨rfl, rfl⟩
        go_wp2_with (first
          | (at_builtin
             refine wpList_app1 (cs := #[.bool true, .int .i64 q]) rfl (.tmp 21) (.tmp 23) 25 rfl sVal (hS.alloc _) 0 (n := k) rfl rfl rfl (by simp) rfl rfl (by omega) ?_
             intro A4 c4 w4 hS4 hC4))
        go_roundw
        case rel => exact ⟨k + 1, A4, c4, by omega, by go_num, rfl, by rw [HT.out, List.map_append, List.map_cons, List.map_nil, HX.out, vals_snoc]; exact hS4⟩
        case measure => simp [intOf]; omega
    · obtain rfl : k = n := by omega
      rw [show vs.take k = vs from List.take_of_length_le (by rw [HLL.out]; omega)] at hS
      go_wp2_with fail
      go_ret
      exact ⟨A', c', rfl, hS⟩
end Go.Proofs.Ytjphckfbbiehdaa

namespace Go.Proofs.Ytjphckfbbiehdaa
open Go.RowKit

theorem ints_snoc_ (l : List Int) (x : Int) : ints (l ++ [x]) = ints l ++ [.int .i64 x] := by simp [ints]
theorem seenAll_cons (l : List Int) (v : Val) (vs : List Val) : seenAll l (v :: vs) = seenAll (seen1 l v) vs := rfl
theorem int_nat {x : Int} (h : 0 ≤ x) : ∃ j : Nat, x = (j : Int) := ⟨x.toNat, by omega⟩

set_option maxRecDepth 100000 in
set_option maxHeartbeats 16000000 in
theorem order_any (w : World) (v : Value) (fss : List (List Val)) (roots : List Val) (h : GraphRd w (fun _ => True) v fss roots) (hn : fss.length ≤ 1000) (hr : roots.length ≤ 1000) (hf : ∀ fs ∈ fss, fs.length ≤ 1000) (hv : ValsOk fss.length roots) (hg : ∀ fs ∈ fss, ValsOk fss.length fs) :
    Calls Try.prog 175 #[v] w fun e w' => ∃ A n c, e = .returned (.slice A n c) ∧ Sep No w w' [rowI 3 1 A n c (ints (order fss roots))] := by
  obtain ⟨AO, nO, cO, AR, nR, cR, obs, rfl, hO, h3, hR⟩ := h.ex
  have HRL := hide (show roots.length = nR by have := hR.1; rw [vals_length] at this; omega)
  have HOL := hide hO.len
  have hlen : fss.length = nO := by rw [← h3, List.length_map]; exact hO.len
  rw [hlen] at hv hg hn
  have HG := hide hg
  have HV := hide hv
  have HF := hide hf
  have H3 := hide h3
  have HLEN := hide hlen
  have hnR : nR ≤ 1000 := by have := HRL.out; omega
  have HS0 := hide (((Sep.nil No w).blkAt 27 #[.slice AO nO cO, .slice AR nR cR] rfl).nilRow0 3 1)
  obtain ⟨a1, a2, a3, a4⟩ := HS0.out.rules 1 (g := w.heap.size) (t := 27) rfl
  clear hv hg hf h3 hlen hr h
  go_enter Try.func175, Try.ntmps175
  go_wp2_with fail
  clear a1 a2 a3 a4
  go_loopw [3, 12] (fun s3 i wr => ∃ (k m : Nat) (A : Option Addr) (c : Nat), k ≤ nR ∧ i = .int .i64 k ∧ s3 = .slice A m c ∧ m ≤ nO ∧ Sep No w wr [rowI 3 1 A m c (ints (seenAll [] (roots.take k))), blkI w.heap.size 27 #[.slice AO nO cO, .slice AR nR cR]]) (fun _ i _ => nR - (intOf i).toNat)
  case atStart => exact ⟨0, 0, none, 0, by omega, rfl, rfl, by omega, HS0.out⟩
  case round =>
    clear HS0
    obtain ⟨k, m, A, c, hk, rfl, rfl, hm, hS⟩ := hrel
    by_cases hlt : k < nR
    · have hkl : k < roots.length := by rw [HRL.out]; exact hlt
      obtain ⟨ad, hA, _, had, hc, hd⟩ := (hR.below hS.below_).atN hlt
      obtain ⟨v0, v1⟩ := vals_at roots k hkl
      have e0 := hc _ v0
      have e1 := hd 0 _ v1
      have hvk := HV.out _ (List.getElem_mem hkl)
      have HT := hide (List.take_succ_eq_append_getElem hkl)
      have hok := ((OrdOk.nil nO).seenAll (HV.out.take (k + 1))).len
      obtain ⟨x, hx⟩ : ∃ x, roots[k] = x := ⟨_, rfl⟩
      rw [hx] at e0 e1 HT hvk
      rw [HT.out, seenAll_snoc] at hok
      subst hA
      clear hc hd v0 v1 hx
      obtain ⟨b, y⟩ := x
      dsimp only at e0 e1 hvk
      obtain ⟨l, hl⟩ : ∃ l, seenAll [] (roots.take k) = l := ⟨_, rfl⟩
      rw [hl] at hS hok
      have HL := hide hl
      have HLM := hide (show l.length = m by have := (hS.rd_ 0 rfl).1; simpa using this)
      cases b with
      | false =>
        have HX := hide (seen1_no l false y (.inl rfl))
        have HS := hide (hS.alloc (.cells #[.bool false, .int .i64 y] 107))
        clear hvk hl hok hS
        go_wp2_with fail
        go_roundw
        case rel => exact ⟨k + 1, m, A, c, by omega, by go_num, rfl, hm, by rw [HT.out, seenAll_snoc, HL.out, HX.out]; exact HS.out⟩
        case measure => simp [intOf]; omega
      | true =>
        have hS1 := hS.alloc (.cells #[.bool true, .int .i64 y] 107)
        have C := has_any _ (fun _ => True) A m c l y (by omega) (hS1.rd_ 0 rfl)
        have HS := hide hS1
        have HSO := hide hS
        by_cases hy : y ∈ l
        · have HX := hide (seen1_no l true y (.inr hy))
          rw [show decide (y ∈ l) = true from by simp [hy]] at C
          have HC := hide C
          clear hvk hl hok hS hS1 C hy
          go_wp2_with fail
          refine HC.out.mono ?_
          rintro e w3 ⟨rfl, rfl⟩
          go_wp2_with fail
          go_roundw
          case rel => exact ⟨k + 1, m, A, c, by omega, by go_num, rfl, hm, by rw [HT.out, seenAll_snoc, HL.out, HX.out]; exact HS.out⟩
          case measure => simp [intOf]; omega
        · have HX := hide (seen1_yes l y hy)
          rw [show decide (y ∈ l) = false from by simp [hy]] at C
          rw [HX.out, List.length_append, HLM.out] at hok
          have hm1 : m + 1 ≤ nO := by simpa using hok
          have HC := hide C
          clear hvk hl hok hS hS1 C hy
          go_wp2_with fail
          refine HC.out.mono ?_
          rintro e w3 ⟨rfl, rfl⟩
          have hS3 := HS.out
          go_wp2_with (first
            | (at_builtin
               refine wpList_app1 (cs := #[.int .i64 y]) rfl (.tmp 25) (.tmp 28) 35 rfl sInt hS3 0 (n := m) rfl rfl rfl (by simp) rfl rfl (by omega) ?_
               intro A4 c4 w4 hS4 hC4))
          go_roundw
          case rel => exact ⟨k + 1, m + 1, A4, c4, by omega, by go_num, rfl, hm1, by rw [HT.out, seenAll_snoc, HL.out, HX.out, ints_snoc_]; exact hS4⟩
          case measure => simp [intOf]; omega
    · obtain rfl : k = nR := by omega
      rw [show roots.take k = roots from List.take_of_length_le (by rw [HRL.out]; omega)] at hS
      have HS := hide hS
      clear hS
      go_wp2_with fail
      have HO := hide (show order fss roots = bfs fss (nO - 0) 0 (seenAll [] roots) from by unfold order; rw [HLEN.out]; rfl)
      have HOK := hide ((OrdOk.nil nO).seenAll HV.out)
      obtain ⟨l0, hl0⟩ : ∃ l, seenAll [] roots = l := ⟨_, rfl⟩
      rw [hl0] at HS HO HOK
      clear hl0
      go_loopw [3, 6] (fun s3 i w2 => ∃ (j m : Nat) (A : Option Addr) (c : Nat) (l : List Int), j ≤ m ∧ i = .int .i64 j ∧ s3 = .slice A m c ∧ m ≤ nO ∧ Hid (order fss roots = bfs fss (nO - j) j l) ∧ Hid (OrdOk nO l) ∧ Sep No w w2 [rowI 3 1 A m c (ints l), blkI w.heap.size 27 #[.slice AO nO cO, .slice AR k cR]]) (fun _ i _ => nO - (intOf i).toNat)
      case atStart => exact ⟨0, m, A, c, l0, by omega, rfl, rfl, hm, HO, HOK, HS.out⟩
      case round =>
        clear HS HO HOK hm
        obtain ⟨j, m, A, c, l, hj, rfl, rfl, hm, HO, HOK, hS⟩ := hrel
        have HLM := hide (show l.length = m by have := (hS.rd_ 0 rfl).1; simpa using this)
        by_cases hlt : j < m
        · have hjl : j < l.length := by rw [HLM.out]; exact hlt
          obtain ⟨ad, hA, _, had, hc⟩ := (hS.rd_ 0 rfl).at_ hlt
          have e0 := hc (.int .i64 l[j]) (by simp [ints, List.getElem?_eq_getElem hjl])
          obtain ⟨r1, r2⟩ := HOK.out.rng _ (List.getElem_mem hjl)
          have HST := hide (bfs_step fss nO j l hjl (by rw [HLM.out]; exact hm))
          have hgd : l.getD j 0 = l[j] := by rw [List.getD_eq_getElem?_getD, List.getElem?_eq_getElem hjl]; rfl
          rw [hgd] at HST
          obtain ⟨x, hx⟩ := int_nat r1
          rw [hx] at e0 r2 HST
          have hxn : x < nO := by omega
          have hxl : x < obs.length := by rw [HOL.out]; exact hxn
          obtain ⟨ad2, hA2, _, had2, hc2⟩ := (hO.below hS.below_).row.at_ hxn
          have e1 := hc2 obs[x].val (by simp [List.getElem?_eq_getElem hxl])
          have hEach := hO.each _ (List.getElem_mem hxl)
          have hFl := hO.flen (List.getElem_mem hxl)
          have hfi : fieldsI fss (x : Int) = obs[x].fields := by
            unfold fieldsI
            rw [← H3.out, List.getD_eq_getElem?_getD]
            simp [List.getElem?_eq_getElem hxl]
          have hfm : obs[x].fields ∈ fss := by rw [← H3.out]; exact List.mem_map.2 ⟨_, List.getElem_mem hxl, rfl⟩
          have hfb := HF.out _ hfm
          have hfv := HG.out _ hfm
          obtain ⟨o, ho⟩ : ∃ o, obs[x] = o := ⟨_, rfl⟩
          rw [hfi] at HST
          rw [ho] at e1 hEach hFl hfb hfv HST
          unfold Ob.val at e1
          rw [hFl] at hfb
          have HFL := hide hFl
          have HFV := hide hfv
          obtain ⟨g1, g2, g3, g4⟩ := hS.rules 1 (g := w.heap.size) (t := 27) rfl
          have HS := hide hS
          have i0 : (0 : Int) ≤ x := by omega
          subst hA hA2
          clear hc hc2 r1 r2 hgd hx hfi hfm hFl hfv ho hS
          go_wp2_with fail
          go_quiet (fail)
          rename_i nq
          clear e0 e1 g1 g2 g3 g4 had had2
          have HS2 := hide (HS.out.drewN nq)
          clear HS
          obtain ⟨wq, hwq⟩ : ∃ wq, wr.drewN nq = wq := ⟨_, rfl⟩
          rw [hwq] at HS2
          go_wp2_with fail
          have HO2 := hide (show order fss roots = bfs fss (nO - (j + 1)) (j + 1) (seenAll (seenAll l (o.fields.take 0)) (o.fields.drop 0)) from by rw [HO.out, HST.out]; rfl)
          go_loopw [3, 47] (fun s3 i w3 => ∃ (p m : Nat) (A : Option Addr) (c : Nat) (l' : List Int), p ≤ o.n ∧ i = .int .i64 p ∧ s3 = .slice A m c ∧ j < m ∧ m ≤ nO ∧ Hid (order fss roots = bfs fss (nO - (j + 1)) (j + 1) (seenAll l' (o.fields.drop p))) ∧ Hid (OrdOk nO l') ∧ Sep No w w3 [rowI 3 1 A m c (ints l'), blkI w.heap.size 27 #[.slice (some ad2) nO cO, .slice AR k cR]]) (fun _ i _ => o.n - (intOf i).toNat)
          case atStart => exact ⟨0, m, _, c, l, by omega, rfl, rfl, hlt, hm, HO2, HOK, by rw [← hwq] at HS2; exact HS2.out⟩
          case round =>
            clear HS2 HO2 hm
            obtain ⟨p, m, A, c, l', hp, rfl, rfl, hjm, hm, HO3, HOK3, hS⟩ := hrel
            have HLM3 := hide (show l'.length = m by have := (hS.rd_ 0 rfl).1; simpa using this)
            by_cases hlp : p < o.n
            · have hpl : p < o.fields.length := by rw [HFL.out]; exact hlp
              obtain ⟨ad3, hA3, _, had3, hc3, hd3⟩ := (hEach.below hS.below_).atN hlp
              obtain ⟨v0, v1⟩ := vals_at o.fields p hpl
              have e0 := hc3 _ v0
              have e1 := hd3 0 _ v1
              have hvk := HFV.out _ (List.getElem_mem hpl)
              have HT := hide (List.drop_eq_getElem_cons hpl)
              have hok := HOK3.out.seen1 hvk
              obtain ⟨x3, hx3⟩ : ∃ x, o.fields[p] = x := ⟨_, rfl⟩
              rw [hx3] at e0 e1 HT hok
              rw [hA3]
              have HA3 := hide hA3
              clear hc3 hd3 v0 v1 hx3 hA3 hvk
              obtain ⟨b, y⟩ := x3
              dsimp only at e0 e1
              cases b with
              | false =>
                have HX := hide (seen1_no l' false y (.inl rfl))
                have HS := hide (hS.alloc (.cells #[.bool false, .int .i64 y] 107))
                clear hok hS
                go_wp2_with fail
                go_roundw
                case rel => exact ⟨p + 1, m, A, c, l', by omega, by go_num, rfl, hjm, hm, by
                  show _ = _
                  rw [HO3.out, HT.out, seenAll_cons, HX.out], HOK3, HS.out⟩
                case measure => simp [intOf]; omega
              | true =>
                have hS1 := hS.alloc (.cells #[.bool true, .int .i64 y] 107)
                have C := has_any _ (fun _ => True) A m c l' y (by omega) (hS1.rd_ 0 rfl)
                have HS := hide hS1
                have HOK4 := hide hok
                have hok2 := hok.len
                by_cases hy : y ∈ l'
                · have HX := hide (seen1_no l' true y (.inr hy))
                  rw [show decide (y ∈ l') = true from by simp [hy]] at C
                  have HC := hide C
                  clear hok hok2 hS hS1 C hy
                  go_wp2_with fail
                  refine HC.out.mono ?_
                  rintro e w5 ⟨rfl, rfl⟩
                  go_wp2_with fail
                  go_roundw
                  case rel => exact ⟨p + 1, m, A, c, l', by omega, by go_num, rfl, hjm, hm, by
                    show _ = _
                    rw [HO3.out, HT.out, seenAll_cons, HX.out], HOK3, HS.out⟩
                  case measure => simp [intOf]; omega
                · have HX := hide (seen1_yes l' y hy)
                  rw [show decide (y ∈ l') = false from by simp [hy]] at C
                  rw [HX.out, List.length_append, HLM3.out] at hok2
                  have hm1 : m + 1 ≤ nO := by simpa using hok2
                  have HC := hide C
                  clear hok hok2 hS hS1 C hy
                  go_wp2_with fail
                  refine HC.out.mono ?_
                  rintro e w5 ⟨rfl, rfl⟩
                  have hS3 := HS.out
                  go_wp2_with (first
                    | (at_builtin
                       refine wpList_app1 (cs := #[.int .i64 y]) rfl (.tmp 60) (.tmp 63) 35 rfl sInt hS3 0 (n := m) rfl rfl rfl (by simp) rfl rfl (by omega) ?_
                       intro A4 c4 w4 hS4 hC4))
                  go_roundw
                  case rel => exact ⟨p + 1, m + 1, A4, c4, l' ++ [y], by omega, by go_num, rfl, by omega, hm1, by
                    show _ = _
                    rw [HO3.out, HT.out, seenAll_cons, HX.out], by rw [HX.out] at HOK4; exact HOK4, by rw [ints_snoc_]; exact hS4⟩
                  case measure => simp [intOf]; omega
            · obtain rfl : p = o.n := by omega
              have HE := hide (show order fss roots = bfs fss (nO - (j + 1)) (j + 1) l' from by
                rw [HO3.out, List.drop_of_length_le (by rw [HFL.out]; omega)]; rfl)
              go_wp2_with fail
              go_roundw
              case rel => exact ⟨j + 1, m, A, c, l', by omega, by go_num, rfl, hm, HE, HOK3, hS⟩
              case measure => simp [intOf]; omega
        · obtain rfl : j = m := by omega
          have HE := hide (bfs_end fss (nO - j) j l (by rw [HLM.out]; omega))
          go_wp2_with fail
          go_ret
          exact ⟨A, j, c, rfl, by rw [HO.out, HE.out]; exact hS.sub (by simp)⟩
end Go.Proofs.Ytjphckfbbiehdaa
