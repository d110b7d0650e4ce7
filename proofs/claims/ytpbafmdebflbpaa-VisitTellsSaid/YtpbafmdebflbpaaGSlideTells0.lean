/- slide: words that are marked; slots. slide: slots of marked words, words turned. slide: what Slide's function does. -/
import Derived.Test.YtpbafmdebflbpaaGMarkTells20
import Derived.Test.YtpbafmdebflbpaaGMarkTells18
import Derived.Test.YtpbafmdebflbpaaGMarkTells17
import Derived.Deep.Cut
import Derived.Deep.RegionLaw
set_option linter.unusedSimpArgs false
set_option linter.unusedVariables false
namespace Go.Proofs.Ytpbafmdebflbpaa
open Go.RowKit Go.Maps

theorem parse_same (f : Nat) : ∀ (ws vs : List Int) (a : Nat), vs.length = ws.length → (parse f ws a).2 = true → (∀ p ∈ (parse f ws a).1, unheadOK (vs.getD p.1 0) ∧ hLen (vs.getD p.1 0) = hLen (ws.getD p.1 0)) → parse f vs a = parse f ws a := by
  induction f with
  | zero => intro ws vs a hl _ _; unfold parse; rw [hl]
  | succ f ih =>
    intro ws vs a hl h2 h
    unfold parse at h2 h ⊢
    rw [hl]
    by_cases h1 : a < ws.length
    · rw [if_pos h1] at h2 h ⊢
      by_cases h3 : unheadOK (ws.getD a 0) ∧ hLen (ws.getD a 0) < (ws.length : Int) - a
      · rw [if_pos h3] at h2 h ⊢
        obtain ⟨g1, g2⟩ := h (a, (hLen (ws.getD a 0)).toNat) (by simp)
        dsimp only at g1 g2
        rw [g2, if_pos h1, if_pos ⟨g1, h3.2⟩]
        rw [ih ws vs (a + 1 + (hLen (ws.getD a 0)).toNat) hl h2 (fun p hp => h p (List.mem_cons_of_mem _ hp))]
      · rw [if_neg h3] at h2
        cases h2
    · rw [if_neg h1, if_neg h1]
section
variable {nW : Nat} {ws : List Int}
theorem mk_head (h : ArnOk nW ws) (S : Nat → Bool) {k : Nat} (hk : k < (parse nW ws 0).1.length) : (mkW ws (parse nW ws 0).1 S).getD (plcN (parse nW ws 0).1 k) 0 = headW (lenN (parse nW ws 0).1 k) (S k) (ageN ws (parse nW ws 0).1 k) := by
  rw [List.getD_eq_getElem?_getD, h.head hk S]; rfl
theorem mk_parts (h : ArnOk nW ws) (S : Nat → Bool) {k : Nat} (hk : k < (parse nW ws 0).1.length) : hLen ((mkW ws (parse nW ws 0).1 S).getD (plcN (parse nW ws 0).1 k) 0) = (lenN (parse nW ws 0).1 k : Int) ∧ hMark ((mkW ws (parse nW ws 0).1 S).getD (plcN (parse nW ws 0).1 k) 0) = S k ∧ hAge ((mkW ws (parse nW ws 0).1 S).getD (plcN (parse nW ws 0).1 k) 0) = ageN ws (parse nW ws 0).1 k ∧ unheadOK ((mkW ws (parse nW ws 0).1 S).getD (plcN (parse nW ws 0).1 k) 0) := by
  obtain ⟨_, _, _, _, h4, h5, h6⟩ := h.obj hk
  rw [mk_head h S hk]
  have := head_parts_ (len := (lenN (parse nW ws 0).1 k : Int)) (by omega) (by omega) h5 h6 (S k)
  exact ⟨this.1, this.2.1, this.2.2.1, this.2.2.2.1⟩
theorem mk_parse (h : ArnOk nW ws) (S : Nat → Bool) : parse nW (mkW ws (parse nW ws 0).1 S) 0 = parse nW ws 0 := by
  refine parse_same nW ws _ 0 (by rw [h.length, h.len]) h.ok fun p hp => ?_
  obtain ⟨k, hk, rfl⟩ := List.mem_iff_getElem.1 hp
  obtain ⟨_, _, h3, _⟩ := h.obj hk
  obtain ⟨g1, _, _, g4⟩ := mk_parts h S hk
  have e := plc_get hk
  rw [e]
  exact ⟨g4, g1.trans h3.symm⟩
theorem mk_ok (h : ArnOk nW ws) (S : Nat → Bool) : ArnOk nW (mkW ws (parse nW ws 0).1 S) := by
  refine ⟨h.length S, h.max, fun x hx => ?_, by rw [mk_parse h S]; exact h.ok⟩
  unfold mkW at hx
  obtain ⟨i, hi, hx⟩ := List.mem_flatMap.1 hx
  have hi' := List.mem_range.1 hi
  unfold mkB at hx
  rcases List.mem_cons.1 hx with rfl | hx
  · exact (h.ofRange hi' S).1
  · exact h.pos x (List.mem_of_mem_drop (List.mem_of_mem_take hx))
theorem mk_fld (h : ArnOk nW ws) (S : Nat → Bool) {k : Nat} (hk : k < (parse nW ws 0).1.length) : ((mkW ws (parse nW ws 0).1 S).drop (plcN (parse nW ws 0).1 k + 1)).take (lenN (parse nW ws 0).1 k) = fldN ws (parse nW ws 0).1 k := by
  refine List.ext_getElem? fun j => ?_
  by_cases hj : j < lenN (parse nW ws 0).1 k
  · rw [List.getElem?_take, if_pos hj, List.getElem?_drop, h.field hk hj S]
  · rw [List.getElem?_take, if_neg hj, List.getElem?_eq_none (by rw [h.fld hk]; omega)]
theorem mk_wf (h : ArnOk nW ws) (hwf : ∀ x ∈ ws, 0 ≤ x ∧ x ≤ 18446744073709551615) (S : Nat → Bool) : ∀ x ∈ mkW ws (parse nW ws 0).1 S, 0 ≤ x ∧ x ≤ 18446744073709551615 := by
  intro x hx
  unfold mkW at hx
  obtain ⟨i, hi, hx⟩ := List.mem_flatMap.1 hx
  unfold mkB at hx
  rcases List.mem_cons.1 hx with rfl | hx
  · exact h.ofRange (List.mem_range.1 hi) S
  · exact hwf x (List.mem_of_mem_drop (List.mem_of_mem_take hx))
end
/-- The marked ones of the first k, in order. -/
def mkd (S : Nat → Bool) (k : Nat) : List Int := ((List.range k).filter S).map fun (i : Nat) => (i : Int)
theorem mkd_succ (S : Nat → Bool) (k : Nat) : mkd S (k + 1) = mkd S k ++ if S k = true then [(k : Int)] else [] := by
  unfold mkd
  rw [List.range_succ, List.filter_append, List.map_append]
  congr 1
  cases h : S k <;> simp [h]
theorem mkd_mem {S : Nat → Bool} {k : Nat} {x : Int} (h : x ∈ mkd S k) : ∃ i : Nat, i < k ∧ x = (i : Int) ∧ S i = true := by
  unfold mkd at h
  obtain ⟨i, hi, rfl⟩ := List.mem_map.1 h
  obtain ⟨h1, h2⟩ := List.mem_filter.1 hi
  exact ⟨i, List.mem_range.1 h1, rfl, h2⟩
theorem mkd_new (S : Nat → Bool) (k : Nat) : (k : Int) ∉ mkd S k := fun h => by
  obtain ⟨i, hi, e, _⟩ := mkd_mem h
  omega
theorem mkd_ok (S : Nat → Bool) (n k : Nat) (hk : k ≤ n) : OrdOk n (mkd S k) := by
  refine ⟨?_, fun x hx => ?_⟩
  · unfold mkd
    rw [List.nodup_iff_pairwise_ne, List.pairwise_map]
    exact (List.Pairwise.filter _ List.nodup_range).imp (fun h e => h (by omega))
  · obtain ⟨i, hi, rfl, _⟩ := mkd_mem hx
    omega

def SlI (bn bm b nn : Nat) (D : DataW Unit) (nx : Nat) : List Item := [mapJ b nn D, blkI bm 117 #[.map (some b)], blkI bn 3 #[.int .i64 nx]]
set_option maxRecDepth 100000 in
set_option maxHeartbeats 4000000 in
theorem slots1_no (w : World) (bn bm b nn nx : Nat) (D : DataW Unit) (at_ len : Nat) (age : Int) (hs : (allI (SlI bn bm b nn D nx)).P w) :
    Calls Try.prog 116 #[.int .i64 at_, .agg #[.int .i64 len, .bool false, .int .i64 age], .pointer (some ⟨bn, 0, none⟩), .pointer (some ⟨bm, 0, none⟩)] w fun e w' => e = .returned (.bool true) ∧
      Sep (allI (SlI bn bm b nn D nx)).fp w w' [allI (SlI bn bm b nn D nx)] := by
  have HS := hide (Sep.start hs)
  clear hs
  go_enter Try.func116, Try.ntmps116
  go_wp2_with fail
  go_ret
  exact ⟨rfl, HS.out.alloc _⟩
set_option maxRecDepth 100000 in
set_option maxHeartbeats 4000000 in
theorem slots1_yes (w : World) (bn bm b nn nx : Nat) (D : DataW Unit) (at_ len : Nat) (age : Int) (hs : (allI (SlI bn bm b nn D nx)).P w) (hat : at_ ≤ 256) (hnx : nx ≤ 1000) (hl : len ≤ 4) (hnn : nn ≤ 256) :
    Calls Try.prog 116 #[.int .i64 at_, .agg #[.int .i64 len, .bool true, .int .i64 age], .pointer (some ⟨bn, 0, none⟩), .pointer (some ⟨bm, 0, none⟩)] w fun e w' => e = .returned (.bool true) ∧
      Sep (allI (SlI bn bm b nn D nx)).fp w w' [allI (SlI bn bm b (nn + 1) (D.put (.int .i64 at_) (.lit (.int .i64 nx))) (nx + (1 + len)))] := by
  obtain ⟨F, hF⟩ : ∃ F, (allI (SlI bn bm b nn D nx)).fp = F := ⟨_, rfl⟩
  have hS := (Sep.start hs).flat
  rw [hF] at hS ⊢
  clear hF hs
  have hS1 := hS.blkAt 23 #[.int .i64 len, .bool true, .int .i64 age] rfl
  have hown : (w.alloc (.cells #[.int .i64 len, .bool true, .int .i64 age] 23)).ownsMap Try.prog 3 (plainElem Try.prog 3) b nn D := hS1.get 0 rfl
  obtain ⟨m1, m2, m3, m4⟩ := hS.rules 1 (g := bm) (t := 117) rfl
  have m5 : w.cell? ⟨bm, 0, none⟩ = some (.map (some b)) := by rw [m1]; rfl
  obtain ⟨n1, n2, n3, n4⟩ := hS.rules 2 (g := bn) (t := 3) rfl
  have n5 : w.cell? ⟨bn, 0, none⟩ = some (.int .i64 nx) := by rw [n1]; rfl
  have hwf1 : (Lit.int .i64 (at_ : Int)).wf = true := WalkArith.wf_i64 (by omega)
  have hwf2 : (Lit.int .i64 (nx : Int)).wf = true := WalkArith.wf_i64 (by omega)
  have HS1 := hide hS1
  clear m1 n1 hS hS1
  go_enter Try.func116, Try.ntmps116
  go_wp2_with (first
    | (at_mapUpdate
       refine wpList_mapUpdate_own _ rfl _ _ _ 117 rfl 3 3 (int_keyed Try.underlying3) Try.underlying117 _ b nn _ rfl hown (by unfold maxLen; omega) _ _ _ rfl rfl (keyOf_int_mk Try.underlying3 hwf1) _ [] (plainElem_int Try.underlying3 hwf2) ?_
       intro w1 hown1 hgrow1
       have hS2 := HS1.out.step 0 rfl ((Chg.of_grown hgrow1).mono (fun g hx => .inl (by injection hx with hx; exact hx.symm))) (mapJ b (nn + 1) (D.put (.int .i64 at_) (.lit (.int .i64 nx)))) hown1 (fun g hg => .inl hg)
       obtain ⟨h1, h2, h3, h4⟩ := hS2.rules 3 (g := w.heap.size) (t := 23) rfl
       (have h5 : w1.cell? ⟨w.heap.size, 0, none⟩ = some (.int .i64 len) := by rw [h1]; rfl)
       obtain ⟨j1, j2, j3, j4⟩ := hS2.rules 2 (g := bn) (t := 3) rfl
       (have j5 : w1.cell? ⟨bn, 0, none⟩ = some (.int .i64 nx) := by rw [j1]; rfl)
       clear h1 j1 hgrow1 hown1))
  have hS3 := hS2.set_ 2 (g := bn) (t := 3) rfl 0 (.int .i64 ((nx + (1 + len) : Nat) : Int))
  have hS4 := (hS3.sub (l := SlI bn bm b (nn + 1) (D.put (.int .i64 at_) (.lit (.int .i64 nx))) (nx + (1 + len))) (by simp [SlI])).fold
  go_ret
  first
    | exact ⟨rfl, hS4⟩
    | (have e8 : ((nx + (1 + len) : Nat) : Int) = (nx : Int) + (1 + (len : Int)) := by omega
       rw [e8] at hS4
       exact ⟨rfl, hS4⟩)
end Go.Proofs.Ytpbafmdebflbpaa

namespace Go.Proofs.Ytpbafmdebflbpaa
open Go.RowKit Go.Maps

theorem mkd_len (S : Nat → Bool) (k : Nat) : (mkd S k).length ≤ k := by
  unfold mkd
  rw [List.length_map]
  have := List.length_filter_le S (List.range k)
  simpa using this
theorem pre_len {nW : Nat} {ws : List Int} (hok : ArnOk nW ws) : (parse nW ws 0).1.length ≤ 256 := by
  have h6 := parse_sum nW ws 0 (by omega) hok.pos
  have h7 : ∀ m : List (Nat × Nat), m.length ≤ (m.map fun p => 1 + p.2).sum := fun m => by
    induction m with
    | nil => simp
    | cons a m ih => simp only [List.map_cons, List.sum_cons, List.length_cons]; omega
  have h8 := h7 (parse nW ws 0).1
  have h9 := hok.len
  have h10 := hok.max
  omega
theorem perm_s4 {α : Type} (a b c : α) : [a, b, c].Perm [b, a, c] := .swap _ _ _

set_option maxRecDepth 100000 in
set_option maxHeartbeats 4000000 in
theorem walkSl_any (w : World) (bn bm b : Nat) (Aw : Option Addr) (nw cw : Nat) (ws : List Int) (S : Nat → Bool) (hok : ArnOk nw ws) (hs : (allI (SlI bn bm b 0 (.map []) 0)).P w) (hw : Rd w (fun g => ¬ (allI (SlI bn bm b 0 (.map []) 0)).fp g) 1 Aw nw (u64s (mkW ws (parse nw ws 0).1 S))) (hwf : ∀ x ∈ ws, 0 ≤ x ∧ x ≤ 18446744073709551615) :
    Calls Try.prog 74 #[.slice Aw nw cw, .func (.func 116) #[] #[.pointer (some ⟨bn, 0, none⟩), .pointer (some ⟨bm, 0, none⟩)]] w fun e w' => ∃ D, e = .returned (.bool true) ∧ NowOk (parse nw ws 0).1 (mkd S (parse nw ws 0).1.length) D ∧
      Sep (allI (SlI bn bm b 0 (.map []) 0)).fp w w' [allI (SlI bn bm b (mkd S (parse nw ws 0).1.length).length D (sumO (parse nw ws 0).1 (mkd S (parse nw ws 0).1.length)))] := by
  have C := walkV_any 116 (enter_of Try.func116 (by kernel_rfl) (by kernel_rfl)) #[.pointer (some ⟨bn, 0, none⟩), .pointer (some ⟨bm, 0, none⟩)] w Aw nw cw (mkW ws (parse nw ws 0).1 S) (mk_ok hok S) (allI (SlI bn bm b 0 (.map []) 0)) (fun k it => ∃ D, it = allI (SlI bn bm b (mkd S k).length D (sumO (parse nw ws 0).1 (mkd S k))) ∧ NowOk (parse nw ws 0).1 (mkd S k) D) ⟨.map [], rfl, nowOk_nil _⟩ hs hw (mk_wf hok hwf S)
  rw [mk_parse hok S] at C
  refine (C ?_).mono ?_
  · rintro k it w' hk ⟨D, rfl, hN⟩ hP _ _
    obtain ⟨g1, g2, g3, g4⟩ := mk_parts hok S hk
    obtain ⟨o1, o2, o3, o4, o5, o6, o7⟩ := hok.obj (i := k) hk
    rw [g2, g3]
    have hO := mkd_ok S (parse nw ws 0).1.length k (by omega)
    have hsum := sumO_le hok.pos hO
    have hlen := mkd_len S k
    have hpl := pre_len hok
    have hl := hok.len
    have hmx := hok.max
    cases hsk : S k with
    | false =>
      refine (slots1_no w' bn bm b _ _ D _ _ _ hP).mono ?_
      rintro e w'' ⟨rfl, hS⟩
      have e1 : mkd S (k + 1) = mkd S k := by rw [mkd_succ, hsk]; simp
      refine ⟨rfl, _, ⟨D, rfl, by rw [e1]; exact hN⟩, ?_⟩
      rw [e1]
      exact hS
    | true =>
      refine (slots1_yes w' bn bm b _ _ D _ _ _ hP (by omega) (by omega) o5 (by omega)).mono ?_
      rintro e w'' ⟨rfl, hS⟩
      have e1 : mkd S (k + 1) = mkd S k ++ [(k : Int)] := by rw [mkd_succ, hsk]; simp
      have hput := hN.put (i := (k : Int)) (by omega) (by omega) (mkd_new S k)
      refine ⟨rfl, _, ⟨_, rfl, by rw [e1]; exact hput⟩, ?_⟩
      rw [e1, List.length_append, sumO_snoc]
      exact hS
  · rintro e w' ⟨rfl, it, ⟨D, rfl, hN⟩, hS⟩
    exact ⟨D, rfl, hN, hS⟩

set_option maxRecDepth 100000 in
set_option maxHeartbeats 4000000 in
theorem slots_any (w : World) (Aw : Option Addr) (nw cw : Nat) (ws : List Int) (S : Nat → Bool) (hok : ArnOk nw ws) (hw : Rd w (fun _ => True) 1 Aw nw (u64s (mkW ws (parse nw ws 0).1 S))) (hwf : ∀ x ∈ ws, 0 ≤ x ∧ x ≤ 18446744073709551615) :
    Calls Try.prog 91 #[.slice Aw nw cw] w fun e w' => ∃ b D, e = .returned (.map (some b)) ∧ NowOk (parse nw ws 0).1 (mkd S (parse nw ws 0).1.length) D ∧
      Sep No w w' [mapJ b (mkd S (parse nw ws 0).1.length).length D] := by
  have hmm := @run_makeMap Try.prog
  have hown := World.ownsMap_made (H := Unit) w Try.prog 3 (plainElem Try.prog 3)
  have hS0 := (Sep.nil No w).consNew ((Below.refl _ _).alloc (Nat.le_refl _) (.map #[] 0)) (mapJ w.heap.size 0 (.map [])) hown (fun g hg => by rw [show g = _ from hg]; exact Nat.le_refl _)
  have hS1 := (hS0.blkAt 117 #[.map (some w.heap.size)] (g := w.heap.size + 1) (by simp)).blkAt 3 #[.int .i64 0] (g := w.heap.size + 1 + 1) (by simp)
  have hS2 : Sep No w _ [allI (SlI (w.heap.size + 1 + 1) (w.heap.size + 1) w.heap.size 0 (.map []) 0)] := hS1.fold
  have C := hide (walkSl_any _ (w.heap.size + 1 + 1) (w.heap.size + 1) w.heap.size Aw nw cw ws S hok (hS2.get 0 rfl) (((hw.more (D' := fun g => g < w.heap.size) (fun k hk _ => hk)).below hS2.below_).more (fun g _ hg hf => by
      rcases hS2.lo 0 rfl g hf with h | h
      · exact h
      · omega)) hwf)
  have HS2 := hide hS2
  clear hown hS0 hS1 hS2
  go_enter Try.func91, Try.ntmps91
  go_wp2_with fail
  refine C.out.mono ?_
  rintro e w1 ⟨D, rfl, hN, hQ⟩
  have hS3 := (HS2.out.call 0 rfl hQ).flat
  obtain ⟨b1, b2, b3, b4⟩ := hS3.rules 1 (g := w.heap.size + 1) (t := 117) rfl
  have b5 := b1 0
  have HS3 := hide hS3
  have HN := hide hN
  clear b1 b4 hS3 hQ HS2 C hN hmm
  go_wp2_with fail
  go_ret
  first
    | exact ⟨w.heap.size, D, rfl, HN.out, HS3.out.sub (by simp [SlI])⟩
    | exact ⟨_, _, ⟨rfl⟩, HN.out, HS3.out.sub (by simp [SlI])⟩

set_option maxRecDepth 100000 in
set_option maxHeartbeats 8000000 in
theorem slturned_any (w : World) (A : Option Addr) (n c b nn nW : Nat) (D : DataW Unit) (ws xs L : List Int) (hX : Rd w (fun _ => True) 1 A n (u64s xs)) (hn : n ≤ 1000) (hM : (mapJ b nn D).P w) (hN : NowOk (parse nW ws 0).1 L D) (hL : ∀ x ∈ xs, GoodW (parse nW ws 0).1 x ∧ (unR x = true → (ixOf (parse nW ws 0).1 (unA x) : Int) ∈ L)) (hq : ∀ i ∈ L, newAt (parse nW ws 0).1 L i < 256) :
    Calls Try.prog 92 #[.slice A n c, .map (some b)] w fun e w' => ∃ A' c', e = .returned (.slice A' n c') ∧ Sep No w w' [rowI 24 1 A' n c' (u64s (xs.map (transW (parse nW ws 0).1 L)))] := by
  have HXL := hide (show xs.length = n by have := hX.1; simpa [u64s] using this)
  have HLL := hide hL
  have HNN := hide hN
  have HQQ := hide hq
  have HS0 := hide ((Sep.nil No w).nilRow0 24 1)
  obtain ⟨pre, hpre⟩ : ∃ pre, (parse nW ws 0).1 = pre := ⟨_, rfl⟩
  rw [hpre] at HLL HNN HQQ ⊢
  clear hpre hL hN hq
  go_enter Try.func92, Try.ntmps92
  go_wp2_with fail
  go_loopw [5, 12] (fun s5 i wr => ∃ (k : Nat) (A' : Option Addr) (c' : Nat), k ≤ n ∧ i = .int .i64 k ∧ s5 = .slice A' k c' ∧ Sep No w wr [rowI 24 1 A' k c' (u64s ((xs.take k).map (transW pre L)))]) (fun _ i _ => n - (intOf i).toNat)
  case atStart => exact ⟨0, none, 0, by omega, rfl, rfl, HS0.out⟩
  case round =>
    clear HS0
    obtain ⟨k, A', c', hk, rfl, rfl, hS⟩ := hrel
    by_cases hlt : k < n
    · have hkl : k < xs.length := by rw [HXL.out]; exact hlt
      have hbb := hS.below_
      obtain ⟨ad, hA, _, had, hc⟩ := (hX.below hbb).at_ hlt
      have e0 := hc (.int .u64 xs[k]) (by simp [u64s, List.getElem?_eq_getElem hkl])
      have hown : wr.ownsMap Try.prog 3 (plainElem Try.prog 3) b nn D := (mapJ b nn D).loc w wr hbb.size (fun g hg => hbb.block g ((mapJ b nn D).dom w hM g hg)) hM
      have HT := hide (show (xs.take (k + 1)).map (transW pre L) = (xs.take k).map (transW pre L) ++ [transW pre L xs[k]] from by rw [List.take_succ_eq_append_getElem hkl, List.map_append]; rfl)
      obtain ⟨hgx, hin⟩ := HLL.out _ (List.getElem_mem hkl)
      obtain ⟨x, hx⟩ : ∃ x, xs[k] = x := ⟨_, rfl⟩
      rw [hx] at e0 HT hgx hin
      subst hA
      have HS := hide hS
      have hx0 := hgx.lo
      have hx1 := hgx.hi
      clear hc hx hbb hS
      cases hr : unR x with
      | false =>
        have C := hide (ref_num wr x hx0 hx1 (hgx.num hr))
        have HTR := hide (show transW pre L x = x from by unfold transW; rw [if_neg (by rw [hr]; simp)])
        clear hgx hin hr hown
        go_wp2_with fail
        refine C.out.mono ?_
        rintro e w3 ⟨rfl, rfl⟩
        go_wp2_with (first
          | (at_builtin
             refine wpList_app1 (cs := #[.int .u64 x]) rfl (.tmp 27) (.tmp 29) 53 rfl sWord HS.out 0 (n := k) rfl rfl rfl (by simp) rfl rfl (by omega) ?_
             intro A4 c4 w4 hS4 hC4))
        go_roundw
        case rel => exact ⟨k + 1, A4, c4, by omega, by go_num, rfl, by rw [HT.out, HTR.out, u64s_snoc]; exact hS4⟩
        case measure => simp [intOf]; omega
      | true =>
        obtain ⟨r1, r2, r3, r4, r5⟩ := hgx.ref hr
        have hin := hin hr
        obtain ⟨q, hq⟩ : ∃ q, newAt pre L (ixOf pre (unA x) : Int) = q := ⟨_, rfl⟩
        have hat := HNN.out.at_ (ixOf pre (unA x) : Int) (by omega) (by omega) hin
        have hq2 := HQQ.out _ hin
        rw [hq] at hat hq2
        have HTR := hide (show transW pre L x = 2 * (q : Int) from by unfold transW; rw [if_pos hr, hq])
        have C := ref_ref wr x hx0 hx1 r1
        obtain ⟨y, hy⟩ : ∃ y, x / 2 = y := ⟨_, rfl⟩
        rw [hy] at C r4
        rw [r4] at hat
        have hwf : (Lit.int .i64 y).wf = true := WalkArith.wf_i64 (by omega)
        have HAT := hide hat
        have C := hide C
        clear hgx hin hr hq hat r1 r2 r3 r4 r5 hy
        go_wp2_with fail
        refine C.out.mono ?_
        rintro e w3 ⟨rfl, rfl⟩
        have W1 : IntKind.u64.wrap ((q : Int) * 2) = 2 * (q : Int) := by simp only [IntKind.wrap_u64]; omega
        go_wp2_with (first
          | (at_lookup
             refine wpList_lookup_own_int _ rfl _ _ 117 rfl 3 3 .i64 (int_keyed Try.underlying3) Try.underlying117 Try.underlying3 (zeroInt_ _) b nn _ rfl hown _ _ rfl (keyOf_int_mk Try.underlying3 hwf) ?_
             intro c hat hwc
             (obtain rfl : c = (q : Int) := by
                have h9 := (HAT.out (.lit (.int .i64 0))).symm.trans hat
                injection h9 with h9; injection h9 with _ h9; exact h9.symm)
             clear hat hwc)
          | (at_builtin
             refine wpList_app1 (cs := #[.int .u64 (2 * (q : Int))]) rfl (.tmp 27) (.tmp 29) 53 rfl sWord HS.out 0 (n := k) rfl rfl rfl (by simp) rfl rfl (by omega) ?_
             intro A4 c4 w4 hS4 hC4))
        go_roundw
        case rel => exact ⟨k + 1, A4, c4, by omega, by go_num, rfl, by rw [HT.out, HTR.out, u64s_snoc]; exact hS4⟩
        case measure => simp [intOf]; omega
    · obtain rfl : k = n := by omega
      rw [show xs.take k = xs from List.take_of_length_le (by rw [HXL.out]; omega)] at hS
      go_wp2_with fail
      go_ret
      exact ⟨A', c', rfl, hS⟩
end Go.Proofs.Ytpbafmdebflbpaa

namespace Go.Proofs.Ytpbafmdebflbpaa
open Go.RowKit Go.Maps

/-- What Slide's function has in hand. -/
def SdI (bo bt bm b nn : Nat) (D : DataW Unit) (Ao : Option Addr) (no co : Nat) (xs : List Int) (Ar : Option Addr) (nr cr : Nat) (Am : Option Addr) (nm cm : Nat) (Ar2 : Option Addr) (nr2 cr2 : Nat) : List Item :=
  [rowI 24 1 Ao no co (u64s xs), blkI bo 55 #[.slice Ao no co, .slice Ar nr cr], mapJ b nn D, blkI bt 117 #[.map (some b)], blkI bm 55 #[.slice Am nm cm, .slice Ar2 nr2 cr2]]

set_option maxRecDepth 100000 in
set_option maxHeartbeats 4000000 in
theorem slide1_no (w : World) (bo bt bm b nn no co nr cr nm cm nr2 cr2 : Nat) (D : DataW Unit) (Ao Ar Am Ar2 : Option Addr) (xs : List Int) (at_ len : Nat) (age : Int) (hs : (allI (SdI bo bt bm b nn D Ao no co xs Ar nr cr Am nm cm Ar2 nr2 cr2)).P w) :
    Calls Try.prog 93 #[.int .i64 at_, .agg #[.int .i64 len, .bool false, .int .i64 age], .pointer (some ⟨bo, 0, none⟩), .pointer (some ⟨bm, 0, none⟩), .pointer (some ⟨bt, 0, none⟩)] w fun e w' => e = .returned (.bool true) ∧
      Sep (allI (SdI bo bt bm b nn D Ao no co xs Ar nr cr Am nm cm Ar2 nr2 cr2)).fp w w' [allI (SdI bo bt bm b nn D Ao no co xs Ar nr cr Am nm cm Ar2 nr2 cr2)] := by
  have HS := hide (Sep.start hs)
  clear hs
  go_enter Try.func93, Try.ntmps93
  go_wp2_with fail
  go_ret
  exact ⟨rfl, HS.out.alloc _⟩

set_option maxRecDepth 100000 in
set_option maxHeartbeats 16000000 in
theorem slide1_yes (w : World) (Dw : Nat → Prop) (bo bt bm b nn no co nr cr nm cm nr2 cr2 nW : Nat) (D : DataW Unit) (Ao Ar Am Ar2 : Option Addr) (ws vs xs ys L : List Int) (at_ len : Nat) (age : Int) (hs : (allI (SdI bo bt bm b nn D Ao no co xs Ar nr cr Am nm cm Ar2 nr2 cr2)).P w) (hD : ∀ g, (allI (SdI bo bt bm b nn D Ao no co xs Ar nr cr Am nm cm Ar2 nr2 cr2)).fp g → ¬ Dw g)
    (hV : WsD w Dw Am nm cm vs) (hnm : nm ≤ 256) (hok : unheadOK (vs.getD at_ 0)) (hlen : hLen (vs.getD at_ 0) = (len : Int)) (hl : at_ + 1 + len ≤ nm) (hl4 : len ≤ 4) (ha0 : 0 ≤ age) (ha7 : age ≤ 7) (hno : no ≤ 1000) (hys : (vs.drop (at_ + 1)).take len = ys)
    (hN : NowOk (parse nW ws 0).1 L D) (hL : ∀ x ∈ ys, GoodW (parse nW ws 0).1 x ∧ (unR x = true → (ixOf (parse nW ws 0).1 (unA x) : Int) ∈ L)) (hq : ∀ i ∈ L, newAt (parse nW ws 0).1 L i < 256) :
    Calls Try.prog 93 #[.int .i64 at_, .agg #[.int .i64 len, .bool true, .int .i64 age], .pointer (some ⟨bo, 0, none⟩), .pointer (some ⟨bm, 0, none⟩), .pointer (some ⟨bt, 0, none⟩)] w fun e w' => ∃ A' c', e = .returned (.bool true) ∧
      Sep (allI (SdI bo bt bm b nn D Ao no co xs Ar nr cr Am nm cm Ar2 nr2 cr2)).fp w w' [allI (SdI bo bt bm b nn D A' (no + (1 + len)) c' (xs ++ headW len false age :: ys.map (transW (parse nW ws 0).1 L)) Ar nr cr Am nm cm Ar2 nr2 cr2)] := by
  obtain ⟨F, hF⟩ : ∃ F, (allI (SdI bo bt bm b nn D Ao no co xs Ar nr cr Am nm cm Ar2 nr2 cr2)).fp = F := ⟨_, rfl⟩
  have hS := (Sep.start hs).flat
  rw [hF] at hS hD ⊢
  clear hF hs
  have hS1 := hS.blkAt 23 #[.int .i64 len, .bool true, .int .i64 age] rfl
  have FD := hide (fun w' hc => fieldsD_any w' Dw Am nm cm at_ len vs (hV.chg (S := F) (w' := w') hc hD) hnm hok hlen hl)
  rw [hys] at FD
  have TR := hide (fun w' A c hX hM => slturned_any w' A len c b nn nW D ws ys L hX (by omega) hM hN hL hq)
  obtain ⟨zs, hzs⟩ : ∃ zs, ys.map (transW (parse nW ws 0).1 L) = zs := ⟨_, rfl⟩
  rw [hzs] at TR ⊢
  obtain ⟨b1, b2, b3, b4⟩ := hS1.rules 1 (g := bo) (t := 55) rfl
  have HS1 := hide hS1
  clear hS hS1 hys hzs hN hL hq hV hok hlen b1 b2 b3 b4
  go_enter Try.func93, Try.ntmps93
  go_wp2_with fail
  refine (head14_ok _ (len : Int) _ false (by omega) (by omega) (by omega) (by omega)).mono ?_
  rintro e w6 ⟨rfl, hb6⟩
  have hS7 := HS1.out.below hb6
  obtain ⟨b1, b2, b3, b4⟩ := hS7.rules 1 (g := bo) (t := 55) rfl
  have b5 : w6.cell? ⟨bo, 0, none⟩ = some (.slice Ao no co) := by rw [b1]; rfl
  obtain ⟨c1, c2, c3, c4⟩ := hS7.rules 3 (g := bt) (t := 117) rfl
  have c5 : w6.cell? ⟨bt, 0, none⟩ = some (.map (some b)) := by rw [c1]; rfl
  obtain ⟨d1, d2, d3, d4⟩ := hS7.rules 4 (g := bm) (t := 55) rfl
  have d5 : w6.cell? ⟨bm, 0, none⟩ = some (.slice Am nm cm) := by rw [d1]; rfl
  have M1 : True := trivial
  have HS7 := hide hS7
  clear b1 b2 b4 c1 c2 c4 d1 d2 d4 hb6 HS1 hS7 ha0 ha7 hD hnm
  go_wp2_with fail
  go_cut [] from 21 (fun wc => ∃ (A' : Option Addr) (c' : Nat), Sep F w wc [rowI 24 1 A' (no + 1 + len) c' (u64s xs ++ (#[Value.int .u64 (headW len false age)] : Array Value).toList ++ u64s zs), blkI bo 55 #[.slice A' (no + 1 + len) c', .slice Ar nr cr], mapJ b nn D, blkI bt 117 #[.map (some b)], blkI bm 55 #[.slice Am nm cm, .slice Ar2 nr2 cr2], blkI w.heap.size 23 #[.int .i64 len, .bool true, .int .i64 age]])
  case first =>
    go_region_law (first
      | (have M := M1
         clear M M1
         refine step_app1d (cs := #[.int .u64 (headW len false age)]) rfl (.tmp 22) (.tmp 24) 53 rfl (F := F) (W := w) sWord (items := _ :: _ :: _ :: _ :: _ :: _) HS7.out 0 (n := no) rfl rfl rfl (by simp) rfl rfl (by omega) ?_
         intro A7 c7 w7 hS8 hC8
         obtain ⟨z1, z2, z3, z4⟩ := hS8.rules 4 (g := bm) (t := 55) rfl
         (have z5 : w7.cell? ⟨bm, 0, none⟩ = some (.slice Am nm cm) := by rw [z1]; rfl)
         obtain ⟨zz1, zz2, zz3, zz4⟩ := hS8.rules 3 (g := bt) (t := 117) rfl
         (have zz5 : w7.cell? ⟨bt, 0, none⟩ = some (.map (some b)) := by rw [zz1]; rfl)
         (have HS8 := hide hS8)
         clear z1 z2 z3 z4 zz1 zz2 zz3 zz4 hC8 hS8)
      | (try go_simp
         go_at_call 79
         refine (FD.out w7 HS8.out.bel).mono ?_
         rintro e w8 ⟨A8, c8, rfl, hb8, hR8⟩
         have hS9 := HS8.out.below hb8
         have hR9 := (hR8.below hb8).more (D' := fun _ => True) (fun _ _ _ => trivial)
         have HTR := hide (TR.out w8 A8 c8 hR9 (hS9.get 2 rfl))
         obtain ⟨y1, y2, y3, y4⟩ := hS9.rules 3 (g := bt) (t := 117) rfl
         (have y5 : w8.cell? ⟨bt, 0, none⟩ = some (.map (some b)) := by rw [y1]; rfl)
         (have HS9 := hide hS9)
         clear y1 y2 y3 y4 hS9 hR9 hR8 hb8)
      | (try go_simp
         go_at_call 92
         refine HTR.out.mono ?_
         rintro e w9 ⟨A9, c9, rfl, hP9⟩
         have HS10 := hide (HS9.out.below hP9.below_)
         have HR10 := hide (hP9.rd_ 0 rfl)
         clear hP9)
      | (refine step_app rfl (.tmp 25) (.tmp 31) 53 rfl sWord HS10.out 0 (n := no + 1) rfl rfl rfl HR10.out (u64s_one _) (by omega) ?_
         intro A11 c11 w11 hS11 hC11
         obtain ⟨x1, x2, x3, x4⟩ := hS11.rules 1 (g := bo) (t := 55) rfl
         (have x5 : w11.cell? ⟨bo, 0, none⟩ = some (.slice Ao no co) := by rw [x1]; rfl)
         (have HS11 := hide hS11)
         clear x1 x4 hC11 hS11))
    all_goals
      go_wp2_with fail
      go_meet
      case rel => exact ⟨A11, c11, HS11.out.set_ 1 (g := bo) (t := 55) rfl 0 (.slice A11 (no + 1 + len) c11)⟩
  case rest =>
    obtain ⟨A', c', hS⟩ := hcut
    have HF := hide (hS.sub (l := SdI bo bt bm b nn D A' (no + 1 + len) c' (xs ++ headW len false age :: zs) Ar nr cr Am nm cm Ar2 nr2 cr2) (by
      have hE : u64s (xs ++ headW len false age :: zs) = u64s xs ++ (#[Value.int .u64 (headW len false age)] : Array Value).toList ++ u64s zs := by simp [u64s]
      unfold SdI
      rw [hE]
      simp)).fold
    clear hS HS7 FD TR b3 b5 c3 c5 d3 d5
    go_wp2_with fail
    go_ret
    rw [show no + (1 + len) = no + 1 + len from by omega]
    first | exact ⟨A', c', rfl, HF⟩ | exact ⟨rfl, A', c', HF⟩ | exact ⟨A', c', HF⟩
end Go.Proofs.Ytpbafmdebflbpaa
