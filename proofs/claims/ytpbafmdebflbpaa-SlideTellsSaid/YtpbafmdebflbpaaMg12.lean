/- move: mover.move, the easy cases. move: mover.move of an object that has not moved yet. move: mover.move, whatever the word; mover.all. -/
import Derived.Test.YtpbafmdebflbpaaMg11
namespace Go.Proofs.Ytpbafmdebflbpaa
open Go.RowKit Go.Maps

set_option maxHeartbeats 400000 in
theorem mv_num (w : World) (m : Nat) (x : Int) (h1 : 0 ≤ x) (h2 : x ≤ 18446744073709551615) (h3 : x % 2 = 1) :
    Calls Try.prog 65 #[.pointer (some ⟨m, 0, none⟩), .int .u64 x] w fun e w' => e = .returned (.int .u64 x) ∧ w' = w := by
  have C := hide (ref_num w x h1 h2 h3)
  clear h1 h2 h3
  go_enter Try.func65, Try.ntmps65
  go_wp2_with fail
  refine C.out.mono ?_
  rintro e w1 ⟨rfl, rfl⟩
  go_wp2_with fail
  go_ret
  first | exact ⟨rfl, rfl⟩ | exact rfl

theorem zeroInt_ (w : World) : (zeroValue 3).run Try.prog w = .ok (.int .i64 0) w := Try.zeroValue3 w

set_option maxRecDepth 100000 in
set_option maxHeartbeats 4000000 in
theorem mv_there (w : World) (m b n : Nat) (D : DataW Unit) (A1 A2 : Option Addr) (n1 c1 n2 c2 q : Nat) (x : Int) (h1 : 0 ≤ x) (h3 : x % 2 = 0) (h4 : x < 512) (hb : Blk w m 119 #[.slice A1 n1 c1, .slice A2 n2 c2, .map (some b)])
    (hm : w.ownsMap Try.prog 3 (plainElem Try.prog 3) b n D) (hhas : Maps.has D (.int .i64 (x / 2)) = true) (hat : ∀ z, D.atKey (.int .i64 (x / 2)) z = .lit (.int .i64 q)) (hq : q < 256) :
    Calls Try.prog 65 #[.pointer (some ⟨m, 0, none⟩), .int .u64 x] w fun e w' => e = .returned (.int .u64 (2 * (q : Int))) ∧ w' = w := by
  have C := hide (ref_ref w x h1 (by omega) h3)
  obtain ⟨b1, b2, b3⟩ := hb.rules
  have b5 : w.cell? ⟨m, 2, none⟩ = some (.map (some b)) := by rw [b1]; rfl
  obtain ⟨y, hy⟩ : ∃ y, x / 2 = y := ⟨_, rfl⟩
  have hy0 : 0 ≤ y := by omega
  have hy1 : y < 256 := by omega
  rw [hy] at C hhas hat
  have HAT := hide hat
  have hwf : (Lit.int .i64 y).wf = true := WalkArith.wf_i64 (by omega)
  clear h1 h3 h4 hy hat b1
  go_enter Try.func65, Try.ntmps65
  go_wp2_with fail
  refine C.out.mono ?_
  rintro e w1 ⟨rfl, rfl⟩
  clear C
  go_wp2_with (first
    | (at_lookup
       refine wpList_lookup_own_ok_int _ rfl _ _ 117 rfl 3 3 .i64 (int_keyed Try.underlying3) Try.underlying117 Try.underlying3 (zeroInt_ _) b n _ rfl hm _ _ rfl (keyOf_int_mk Try.underlying3 hwf) ?_
       intro c hat hwc
       (obtain rfl : c = (q : Int) := by
          have h9 := (HAT.out (.lit (.int .i64 0))).symm.trans hat
          injection h9 with h9; injection h9 with _ h9; exact h9.symm)
       clear hat hwc)
    | (at_lookup
       refine wpList_lookup_own_int _ rfl _ _ 117 rfl 3 3 .i64 (int_keyed Try.underlying3) Try.underlying117 Try.underlying3 (zeroInt_ _) b n _ rfl hm _ _ rfl (keyOf_int_mk Try.underlying3 hwf) ?_
       intro c hat hwc
       (obtain rfl : c = (q : Int) := by
          have h9 := (HAT.out (.lit (.int .i64 0))).symm.trans hat
          injection h9 with h9; injection h9 with _ h9; exact h9.symm)
       clear hat hwc))
  go_ret
  exact ⟨ret_int (a := (q : Int) * 2) (by omega), rfl⟩
end Go.Proofs.Ytpbafmdebflbpaa

namespace Go.Proofs.Ytpbafmdebflbpaa
open Go.RowKit Go.Maps

def MvI (m b nn : Nat) (D : DataW Unit) (At : Option Addr) (nt ct : Nat) (xs : List Int) (Aw : Option Addr) (nw cw : Nat) : List Item :=
  [rowI 24 1 At nt ct (u64s xs), mapJ b nn D, blkI m 119 #[.slice Aw nw cw, .slice At nt ct, .map (some b)]]

set_option maxRecDepth 100000 in
set_option maxHeartbeats 16000000 in
theorem mv_new (w : World) (Dw : Nat → Prop) (m b nn : Nat) (D : DataW Unit) (Aw At : Option Addr) (nw cw nt ct at_ len : Nat) (ws xs : List Int) (hs : (allI (MvI m b nn D At nt ct xs Aw nw cw)).P w) (hD : ∀ g, (allI (MvI m b nn D At nt ct xs Aw nw cw)).fp g → ¬ Dw g) (hW : WsD w Dw Aw nw cw ws) (hn : nw ≤ 256) (hnt : nt ≤ 256) (hnn : nn ≤ 256)
    (hok : unheadOK (ws.getD at_ 0)) (hlen : hLen (ws.getD at_ 0) = (len : Int)) (hl : at_ + 1 + len ≤ nw) (hhas : Maps.has D (.int .i64 (at_ : Int)) = false) (hmap : IsMap D) :
    Calls Try.prog 65 #[.pointer (some ⟨m, 0, none⟩), .int .u64 (2 * (at_ : Int))] w fun e w' => ∃ A' c', e = .returned (.int .u64 (2 * (nt : Int))) ∧
      Sep (allI (MvI m b nn D At nt ct xs Aw nw cw)).fp w w' [allI (MvI m b (nn + 1) (D.put (.int .i64 (at_ : Int)) (.lit (.int .i64 (nt : Int)))) A' (nt + (1 + len)) c' (xs ++ headW len false (if 7 < hAge (ws.getD at_ 0) + 1 then 7 else hAge (ws.getD at_ 0) + 1) :: (ws.drop (at_ + 1)).take len) Aw nw cw)] := by
  obtain ⟨F, hF⟩ : ∃ F, (allI (MvI m b nn D At nt ct xs Aw nw cw)).fp = F := ⟨_, rfl⟩
  have hS := (Sep.start hs).flat
  rw [hF] at hS hD ⊢
  clear hF hs
  have hlt : at_ < nw := by omega
  have hkl : at_ < ws.length := by rw [hW.in_.len]; exact hlt
  have C0 := hide (ref_ref w (2 * (at_ : Int)) (by omega) (by omega) (by omega))
  rw [show 2 * (at_ : Int) / 2 = (at_ : Int) from by omega] at C0
  obtain ⟨b1, b2, b3, b4⟩ := hS.rules 2 (g := m) (t := 119) rfl
  have b5 : w.cell? ⟨m, 2, none⟩ = some (.map (some b)) := by rw [b1]; rfl
  have b6 : w.cell? ⟨m, 0, none⟩ = some (.slice Aw nw cw) := by rw [b1]; rfl
  have hown : w.ownsMap Try.prog 3 (plainElem Try.prog 3) b nn D := hS.get 1 rfl
  have hwf : (Lit.int .i64 (at_ : Int)).wf = true := WalkArith.wf_i64 (by omega)
  have hwft : (Lit.int .i64 (nt : Int)).wf = true := WalkArith.wf_i64 (by omega)
  obtain ⟨ad, hA, _, had, hc⟩ := hW.rd.at_ hlt
  have e0 := hc (.int .u64 ws[at_]) (by simp [u64s, List.getElem?_eq_getElem hkl])
  have hb := hW.wf _ (List.getElem_mem hkl)
  have hgd : ws.getD at_ 0 = ws[at_] := by rw [List.getD_eq_getElem?_getD, List.getElem?_eq_getElem hkl]; rfl
  have FD := hide (fun w' hc => fieldsD_any w' Dw Aw nw cw at_ len ws (hW.chg (S := F) (w' := w') hc hD) hn hok hlen hl)
  obtain ⟨x, hx⟩ : ∃ x, ws[at_] = x := ⟨_, rfl⟩
  rw [hgd, hx] at hok hlen ⊢
  rw [hx] at e0 hb
  have C := fun w' => unheadP_ok w' x hb.1 hb.2 hok
  rw [hlen] at C
  have C1 := hide C
  have hl4 : len ≤ 4 := by have := hok.1; omega
  have ha0 : 0 ≤ hAge x := by unfold hAge; omega
  have ha7 : hAge x ≤ 7 := by unfold hAge; omega
  obtain ⟨ag, hag⟩ : ∃ ag, hAge x = ag := ⟨_, rfl⟩
  obtain ⟨mk, hmk⟩ : ∃ mk, hMark x = mk := ⟨_, rfl⟩
  rw [hag] at C1 ha0 ha7 ⊢
  rw [hmk] at C1
  obtain ⟨ys, hys⟩ : ∃ ys, (ws.drop (at_ + 1)).take len = ys := ⟨_, rfl⟩
  rw [hys] at FD ⊢
  obtain ⟨hg, hhg⟩ : ∃ y, (if 7 < ag + 1 then 7 else ag + 1) = y := ⟨_, rfl⟩
  rw [hhg]
  have HHG := hide hhg
  have HS := hide hS
  have HMAP := hide hmap
  subst hA
  clear hS b1 b4 hc hb hgd C hok hlen hD hW hkl hx hag hmk hys hmap hhg
  go_enter Try.func65, Try.ntmps65
  go_wp2_with fail
  refine C0.out.mono ?_
  rintro e w1 ⟨rfl, rfl⟩
  clear C0
  go_wp2_with (first
    | (at_lookup
       refine wpList_lookup_own_ok_int _ rfl _ _ 117 rfl 3 3 .i64 (int_keyed Try.underlying3) Try.underlying117 Try.underlying3 (zeroInt_ _) b nn _ rfl hown _ _ rfl (keyOf_int_mk Try.underlying3 hwf) ?_
       intro c hat hwc
       clear hat hwc))
  refine (C1.out _).mono ?_
  rintro e w3 ⟨rfl, hb3⟩
  have hS3 := (HS.out.below hb3).alloc (.cells #[.int .i64 len, .bool mk, .int .i64 ag] 23)
  have hS4 := (HS.out.below hb3).blkAt 23 #[.int .i64 len, .bool mk, .int .i64 ag] rfl
  clear b2 b3 b5 b6 hown hhas hS3 C1
  obtain ⟨b1, b2, b3, b4⟩ := (HS.out.below hb3).rules 2 (g := m) (t := 119) rfl
  have b5 : w3.cell? ⟨m, 2, none⟩ = some (.map (some b)) := by rw [b1]; rfl
  have b6 : w3.cell? ⟨m, 0, none⟩ = some (.slice (some ad) nw cw) := by rw [b1]; rfl
  have b7 : w3.cell? ⟨m, 1, none⟩ = some (.slice At nt ct) := by rw [b1]; rfl
  have HS4 := hide hS4
  clear hb3 HS b1 b4 e0 had hS4
  go_wp2_with fail
  have hS5 : Sep F w1 (w3.alloc (.cells #[.int .i64 len, .bool mk, .int .i64 ag] 23)).drew [rowI 24 1 At nt ct (u64s xs), mapJ b nn D, blkI m 119 #[.slice (some ad) nw cw, .slice At nt ct, .map (some b)], blkI w3.heap.size 23 #[.int .i64 len, .bool mk, .int .i64 ag]] := HS4.out.drew
  obtain ⟨w5, hrun, hS6⟩ := hS5.mapUpd 1 rfl (by unfold maxLen; omega) (at_ : Int) (nt : Int) hwf hwft
  clear HS4
  go_region
  clear hrun
  clear b2 b3 b5 b6 b7 hS5
  obtain ⟨b1, b2, b3, b4⟩ := hS6.rules 2 (g := m) (t := 119) rfl
  have b5 : w5.cell? ⟨m, 2, none⟩ = some (.map (some b)) := by rw [b1]; rfl
  have b6 : w5.cell? ⟨m, 0, none⟩ = some (.slice (some ad) nw cw) := by rw [b1]; rfl
  have b7 : w5.cell? ⟨m, 1, none⟩ = some (.slice At nt ct) := by rw [b1]; rfl
  obtain ⟨h1, h2, h3, h4⟩ := hS6.rules 3 (g := w3.heap.size) (t := 23) rfl
  have h5 : w5.cell? ⟨w3.heap.size, 0, none⟩ = some (.int .i64 len) := by rw [h1]; rfl
  have h6 : w5.cell? ⟨w3.heap.size, 2, none⟩ = some (.int .i64 ag) := by rw [h1]; rfl
  clear b1 b4 h1 h4
  have HS6 := hide hS6
  clear hS6
  go_wp2_with fail
  all_goals
    refine (head14_ok w5 (len : Int) _ false (by omega) (by omega) (by omega) (by omega)).mono ?_
    rintro e w6 ⟨rfl, hb6⟩
    have hS7 := HS6.out.below hb6
    clear b2 b3 b5 b6 b7 h2 h3 h5 h6 HS6 hb6
    obtain ⟨b1, b2, b3, b4⟩ := hS7.rules 2 (g := m) (t := 119) rfl
    have b6 : w6.cell? ⟨m, 0, none⟩ = some (.slice (some ad) nw cw) := by rw [b1]; rfl
    have b7 : w6.cell? ⟨m, 1, none⟩ = some (.slice At nt ct) := by rw [b1]; rfl
    clear b1 b4
    go_wp2_with fail
    go_region_law (first
      | (refine step_app1d (cs := #[.int .u64 (headW len false _)]) rfl (.tmp 68) (.tmp 70) 53 rfl (F := F) (W := w1) sWord (items := _ :: _ :: _ :: _) hS7 0 (n := nt) rfl rfl rfl (by simp) rfl rfl (by omega) ?_
         intro A7 c7 w7 hS8 hC8
         obtain ⟨z1, z2, z3, z4⟩ := hS8.rules 2 (g := m) (t := 119) rfl
         (have z5 : w7.cell? ⟨m, 0, none⟩ = some (.slice (some ad) nw cw) := by rw [z1]; rfl)
         clear z1 z4 hC8)
      | (try go_simp
         go_at_call 79
         refine (FD.out w7 hS8.bel).mono ?_
         rintro e w8 ⟨A8, c8, rfl, hb8, hR8⟩
         have hS9 := hS8.below hb8
         have hR9 := (hR8.below hb8).more (D' := fun _ => True) (fun _ _ _ => trivial)
         obtain ⟨y1, y2, y3, y4⟩ := hS9.rules 2 (g := m) (t := 119) rfl
         (have y5 : w8.cell? ⟨m, 0, none⟩ = some (.slice (some ad) nw cw) := by rw [y1]; rfl)
         clear y1 y4)
      | (refine step_app rfl (.tmp 71) (.tmp 77) 53 rfl sWord hS9 0 (n := nt + 1) rfl rfl rfl hR9 (u64s_one _) (by omega) ?_
         intro A9 c9 w9 hS10 hC10
         obtain ⟨x1, x2, x3, x4⟩ := hS10.rules 2 (g := m) (t := 119) rfl
         (have x5 : w9.cell? ⟨m, 1, none⟩ = some (.slice At nt ct) := by rw [x1]; rfl)
         clear x1 x4 hC10))
    all_goals
      have hF := hS10.set_ 2 (g := m) (t := 119) rfl 1 (.slice A9 (nt + 1 + len) c9)
      obtain ⟨wz, hwz⟩ : ∃ wz, w9.setCell ⟨m, 1, none⟩ (.slice A9 (nt + 1 + len) c9) = wz := ⟨_, rfl⟩
      rw [hwz] at hF ⊢
      obtain ⟨v1, v2, v3, v4⟩ := hF.rules 2 (g := m) (t := 119) rfl
      have v5 : wz.cell? ⟨m, 2, none⟩ = some (.map (some b)) := by rw [v1]; rfl
      have hown : wz.ownsMap Try.prog 3 (plainElem Try.prog 3) b (nn + 1) (D.put (.int .i64 (at_ : Int)) (.lit (.int .i64 (nt : Int)))) := hF.get 1 rfl
      have HF := hide hF
      clear b2 b3 b6 b7 z2 z3 z5 y2 y3 y5 x2 x3 x5 v1 v4 hS7 hS8 hS9 hS10 hR8 hR9 hb8 hF hwz
      go_wp2_with (first
        | (at_lookup
           refine wpList_lookup_own_int _ rfl _ _ 117 rfl 3 3 .i64 (int_keyed Try.underlying3) Try.underlying117 Try.underlying3 (zeroInt_ _) b (nn + 1) _ rfl hown _ _ rfl (keyOf_int_mk Try.underlying3 hwf) ?_
           intro c hat hwc
           (obtain rfl : c = (nt : Int) := by
              rw [atKey_put_same (k := Lit.int .i64 (at_ : Int)) HMAP.out trivial] at hat
              injection hat with h9; injection h9 with _ h9; exact h9.symm)
           clear hat hwc))
      go_ret
      refine ⟨ret_int (a := (nt : Int) * 2) (by omega), A9, c9, ?_⟩
      have hE : u64s (xs ++ headW len false hg :: ys) = u64s xs ++ (#[Value.int .u64 (headW len false hg)] : Array Value).toList ++ u64s ys := by simp [u64s]
      rw [show nt + (1 + len) = nt + 1 + len from by omega]
      unfold MvI
      rw [hE]
      first
        | (obtain rfl : hg = 7 := (by rw [← HHG.out, if_pos (show 7 < ag + 1 by omega)])
           have h9 := (HF.out.sub (List.take_sublist 3 _)).fold
           exact h9)
        | (obtain rfl : hg = ag + 1 := (by rw [← HHG.out, if_neg (show ¬ 7 < ag + 1 by omega)])
           have h9 := (HF.out.sub (List.take_sublist 3 _)).fold
           exact h9)
end Go.Proofs.Ytpbafmdebflbpaa

namespace Go.Proofs.Ytpbafmdebflbpaa
open Go.RowKit Go.Maps

/-- A word of an arena that may be. -/
structure GoodW (pre : List (Nat × Nat)) (x : Int) : Prop where
  lo : 0 ≤ x
  hi : x ≤ 18446744073709551615
  e : unE x = 0
  ix : unR x = true → ixOf pre (unA x) < pre.length ∧ (placesOf pre)[ixOf pre (unA x)]? = some (unA x)
theorem GoodW.num {pre : List (Nat × Nat)} {x : Int} (h : GoodW pre x) (hr : unR x = false) : x % 2 = 1 := by
  have he := h.e
  unfold unE at he
  unfold unR at hr
  simp only [decide_eq_false_iff_not, not_and] at hr
  split at he
  · assumption
  · split at he
    · have := hr (by omega); omega
    · omega
theorem GoodW.ref {pre : List (Nat × Nat)} {x : Int} (h : GoodW pre x) (hr : unR x = true) : x % 2 = 0 ∧ x < 512 ∧ unA x = x / 2 ∧ (plc pre (ixOf pre (unA x) : Nat) : Int) = x / 2 ∧ ixOf pre (unA x) < pre.length := by
  have hr2 := hr
  unfold unR at hr2
  simp only [decide_eq_true_eq] at hr2
  have ha : unA x = x / 2 := by unfold unA; rw [if_neg (by omega), if_pos (by omega)]
  obtain ⟨h1, h2⟩ := h.ix hr
  refine ⟨hr2.1, hr2.2, ha, ?_, h1⟩
  rw [← ha]
  generalize ixOf pre (unA x) = q at *
  unfold placesOf at h2
  rw [List.getElem?_map, List.getElem?_eq_getElem h1] at h2
  have h3 : ((pre[q].1 : Nat) : Int) = unA x := by simpa using h2
  rw [← h3]
  unfold plc
  rw [List.getD_eq_getElem?_getD]
  simp [List.getElem?_eq_getElem h1]

/-- The list of what has moved, behind a word; and what that word adds. -/
def mvL (pre : List (Nat × Nat)) (l : List Int) (x : Int) : List Int := seen1 l (turnW (ixOf pre) x)
def mvE (ws : List Int) (pre : List (Nat × Nat)) (l : List Int) (x : Int) : List Int := if unR x = true ∧ (ixOf pre (unA x) : Int) ∉ l then rawO ws pre 1 (ixOf pre (unA x)) else []
theorem mvL_no {pre : List (Nat × Nat)} {l : List Int} {x : Int} (h : unR x = false ∨ (ixOf pre (unA x) : Int) ∈ l) : mvL pre l x = l := by
  unfold mvL turnW
  cases hr : unR x with
  | false => exact seen1_no _ _ _ (.inl rfl)
  | true =>
    rcases h with h | h
    · rw [hr] at h; cases h
    · exact seen1_no _ _ _ (.inr h)
theorem mvL_yes {pre : List (Nat × Nat)} {l : List Int} {x : Int} (hr : unR x = true) (h : (ixOf pre (unA x) : Int) ∉ l) : mvL pre l x = l ++ [(ixOf pre (unA x) : Int)] := by
  unfold mvL turnW; rw [hr]; exact seen1_yes _ _ h
theorem mvL_mem {pre : List (Nat × Nat)} {l : List Int} {x : Int} (hr : unR x = true) : (ixOf pre (unA x) : Int) ∈ mvL pre l x := by
  by_cases h : (ixOf pre (unA x) : Int) ∈ l
  · rw [mvL_no (.inr h)]; exact h
  · rw [mvL_yes hr h]; simp
theorem mvL_ok {pre : List (Nat × Nat)} {l : List Int} {x : Int} (hx : GoodW pre x) (h : OrdOk pre.length l) : OrdOk pre.length (mvL pre l x) := by
  refine h.seen1 fun hv => ?_
  have hr : unR x = true := hv
  have := (hx.ref hr).2.2.2.2
  unfold turnW
  rw [hr]
  dsimp only
  rw [if_pos rfl]
  omega
theorem transW_pre {pre : List (Nat × Nat)} {l m : List Int} {x : Int} (hp : l <+: m) (h : unR x = true → (ixOf pre (unA x) : Int) ∈ l) : transW pre m x = transW pre l x := by
  unfold transW
  split
  · rename_i hr; rw [newAt_pre hp (h hr)]
  · rfl
theorem rawO_len {nW : Nat} {ws : List Int} {o i : Int} (hw : ∀ x ∈ ws, 0 ≤ x) (hi0 : 0 ≤ i) (hi : i < (parse nW ws 0).1.length) : (rawO ws (parse nW ws 0).1 o i).length = 1 + lenO (parse nW ws 0).1 i ∧ plc (parse nW ws 0).1 i < ws.length ∧ unheadOK (ws.getD (plc (parse nW ws 0).1 i) 0) ∧ hLen (ws.getD (plc (parse nW ws 0).1 i) 0) = (lenO (parse nW ws 0).1 i : Int) ∧ plc (parse nW ws 0).1 i + 1 + lenO (parse nW ws 0).1 i ≤ ws.length := by
  have hm := fun p hp => parse_mem nW ws 0 p hw hp
  generalize (parse nW ws 0).1 = pre at *
  have hil : i.toNat < pre.length := by omega
  obtain ⟨h1, h2, h3, h4⟩ := hm _ (List.getElem_mem hil)
  have e : pre.getD i.toNat (0, 0) = pre[i.toNat] := by rw [List.getD_eq_getElem?_getD, List.getElem?_eq_getElem hil]; rfl
  refine ⟨?_, ?_, ?_, ?_, ?_⟩
  · unfold rawO plc lenO
    rw [e]
    simp only [List.length_cons, List.length_take, List.length_drop]
    omega
  all_goals (unfold plc; rw [e]; try (unfold lenO; rw [e]))
  · exact h1
  · exact h2
  · exact h3
  · exact h4

set_option maxRecDepth 100000 in
set_option maxHeartbeats 1600000 in
theorem mv_any (w : World) (Dw : Nat → Prop) (m b : Nat) (D : DataW Unit) (Aw At : Option Addr) (nw cw nt ct : Nat) (ws xs l : List Int) (x : Int) (hs : (allI (MvI m b l.length D At nt ct xs Aw nw cw)).P w) (hD : ∀ g, (allI (MvI m b l.length D At nt ct xs Aw nw cw)).fp g → ¬ Dw g) (hW : WsD w Dw Aw nw cw ws) (hn : nw ≤ 256)
    (hO : OrdOk (parse nw ws 0).1.length l) (hN : NowOk (parse nw ws 0).1 l D) (hnt : nt = sumO (parse nw ws 0).1 l) (hx : GoodW (parse nw ws 0).1 x) :
    Calls Try.prog 65 #[.pointer (some ⟨m, 0, none⟩), .int .u64 x] w fun e w' => ∃ D' At' nt' ct', e = .returned (.int .u64 (transW (parse nw ws 0).1 (mvL (parse nw ws 0).1 l x) x)) ∧
      NowOk (parse nw ws 0).1 (mvL (parse nw ws 0).1 l x) D' ∧ nt' = sumO (parse nw ws 0).1 (mvL (parse nw ws 0).1 l x) ∧
      Sep (allI (MvI m b l.length D At nt ct xs Aw nw cw)).fp w w' [allI (MvI m b (mvL (parse nw ws 0).1 l x).length D' At' nt' ct' (xs ++ mvE ws (parse nw ws 0).1 l x) Aw nw cw)] := by
  have hw0 : ∀ x ∈ ws, 0 ≤ x := fun x hx => (hW.wf x hx).1
  have hwl := hW.in_.len
  cases hr : unR x with
  | false =>
    have h1 : mvL (parse nw ws 0).1 l x = l := mvL_no (.inl hr)
    have h2 : mvE ws (parse nw ws 0).1 l x = [] := by unfold mvE; rw [if_neg (by rw [hr]; simp)]
    have h3 : transW (parse nw ws 0).1 l x = x := by unfold transW; rw [if_neg (by rw [hr]; simp)]
    rw [h1, h2, h3, List.append_nil]
    refine (mv_num w m x hx.lo hx.hi (hx.num hr)).mono ?_
    rintro e w' ⟨rfl, rfl⟩
    exact ⟨D, At, nt, ct, rfl, hN, hnt, Sep.start hs⟩
  | true =>
    obtain ⟨r1, r2, r3, r4, r5⟩ := hx.ref hr
    obtain ⟨q, hq⟩ : ∃ q, ixOf (parse nw ws 0).1 (unA x) = q := ⟨_, rfl⟩
    by_cases hin : (ixOf (parse nw ws 0).1 (unA x) : Int) ∈ l
    · have h1 : mvL (parse nw ws 0).1 l x = l := mvL_no (.inr hin)
      have h2 : mvE ws (parse nw ws 0).1 l x = [] := by unfold mvE; rw [if_neg (by rintro ⟨_, h⟩; exact h hin)]
      have h3 : transW (parse nw ws 0).1 l x = 2 * (newAt (parse nw ws 0).1 l (ixOf (parse nw ws 0).1 (unA x)) : Int) := by unfold transW; rw [if_pos hr]
      have h4 := newAt_lt hw0 hO hin
      rw [h1, h2, h3, List.append_nil]
      have hhas := hN.has ((ixOf (parse nw ws 0).1 (unA x) : Nat) : Int) (by omega) (by omega)
      have hat := hN.at_ ((ixOf (parse nw ws 0).1 (unA x) : Nat) : Int) (by omega) (by omega) hin
      rw [r4] at hhas hat
      rw [show decide ((ixOf (parse nw ws 0).1 (unA x) : Int) ∈ l) = true from by simp [hin]] at hhas
      refine (mv_there w m b l.length D Aw At nw cw nt ct _ x hx.lo r1 r2 (hs.1 (blkI m 119 #[.slice Aw nw cw, .slice At nt ct, .map (some b)]) (by simp [MvI])) (hs.1 (mapJ b l.length D) (by simp [MvI])) hhas hat (by omega)).mono ?_
      rintro e w' ⟨rfl, rfl⟩
      exact ⟨D, At, nt, ct, rfl, hN, hnt, Sep.start hs⟩
    · have h1 : mvL (parse nw ws 0).1 l x = l ++ [(ixOf (parse nw ws 0).1 (unA x) : Int)] := mvL_yes hr hin
      have h2 : mvE ws (parse nw ws 0).1 l x = rawO ws (parse nw ws 0).1 1 (ixOf (parse nw ws 0).1 (unA x)) := by unfold mvE; rw [if_pos ⟨hr, hin⟩]
      have h3 : transW (parse nw ws 0).1 (l ++ [(ixOf (parse nw ws 0).1 (unA x) : Int)]) x = 2 * (nt : Int) := by unfold transW; rw [if_pos hr, newAt_last hin, hnt]
      obtain ⟨g1, g2, g3, g4, g5⟩ := rawO_len (nW := nw) (o := 1) hw0 (i := (ixOf (parse nw ws 0).1 (unA x) : Int)) (by omega) (by omega)
      have hs1 := sumO_le hw0 hO
      have hl1 := hO.len
      have hpl : (parse nw ws 0).1.length ≤ ws.length := by
        have h6 := parse_sum nw ws 0 (by omega) hw0
        have h7 : ∀ m : List (Nat × Nat), m.length ≤ (m.map fun p => 1 + p.2).sum := fun m => by
          induction m with
          | nil => simp
          | cons a m ih => simp only [List.map_cons, List.sum_cons, List.length_cons]; omega
        have := h7 (parse nw ws 0).1
        omega
      rw [h1, h2, h3]
      have hhas := hN.has ((ixOf (parse nw ws 0).1 (unA x) : Nat) : Int) (by omega) (by omega)
      rw [show decide ((ixOf (parse nw ws 0).1 (unA x) : Int) ∈ l) = false from by simp [hin]] at hhas
      have hput := hN.put (i := (ixOf (parse nw ws 0).1 (unA x) : Int)) (by omega) (by omega) hin
      rw [← hnt] at hput
      have key := mv_new w Dw m b l.length D Aw At nw cw nt ct (plc (parse nw ws 0).1 (ixOf (parse nw ws 0).1 (unA x) : Int)) (lenO (parse nw ws 0).1 (ixOf (parse nw ws 0).1 (unA x) : Int)) ws xs hs hD hW hn (by omega) (by omega) g3 g4 (by omega) hhas hN.map
      rw [show 2 * ((plc (parse nw ws 0).1 (ixOf (parse nw ws 0).1 (unA x) : Int) : Nat) : Int) = x from by omega] at key
      refine key.mono ?_
      rintro e w' ⟨A', c', rfl, hS⟩
      refine ⟨_, A', nt + (1 + lenO (parse nw ws 0).1 (ixOf (parse nw ws 0).1 (unA x) : Int)), c', rfl, hput, by rw [sumO_snoc, hnt], ?_⟩
      rw [List.length_append, List.length_singleton]
      have e9 : rawO ws (parse nw ws 0).1 1 (ixOf (parse nw ws 0).1 (unA x)) = headW (lenO (parse nw ws 0).1 (ixOf (parse nw ws 0).1 (unA x) : Int)) false (if 7 < hAge (ws.getD (plc (parse nw ws 0).1 (ixOf (parse nw ws 0).1 (unA x) : Int)) 0) + 1 then 7 else hAge (ws.getD (plc (parse nw ws 0).1 (ixOf (parse nw ws 0).1 (unA x) : Int)) 0) + 1) :: (ws.drop (plc (parse nw ws 0).1 (ixOf (parse nw ws 0).1 (unA x) : Int) + 1)).take (lenO (parse nw ws 0).1 (ixOf (parse nw ws 0).1 (unA x) : Int)) := by
        unfold rawO older headOf
        rw [← g4]
      rw [e9]
      exact hS
end Go.Proofs.Ytpbafmdebflbpaa
