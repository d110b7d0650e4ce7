/- slide: slots of marked words, words turned. slide: what Slide's function does. arena: Lay. -/
import Derived.Test.YtpbafmdebflbpaaMg17
import Derived.Deep.Cut
import Derived.Deep.RegionLaw
import Derived.Test.YtpbafmdebflbpaaMg4
namespace Go.Proofs.Ytpbafmdebflbpaa
open Go.RowKit Go.Maps

theorem mkd_len (S : Nat → Bool) (k : Nat) : (mkd S k).length ≤ k := by
  unfold mkd
  rw [List.length_map]
  have := List.length_filter_le S (List.range k)
  simpa using this
theorem pre_len {nW : Nat} {ws : List Int} (hok : ArnOk nW ws) : (parse nW ws 0).1.length ≤ 256 := by
  have h6 := parse_sum nW ws 0 (by omega) hok.pos
  have h7 : ∀ m : List (Nat × Nat), m.length ≤ (m.map fun p => 1 + p.2).sum := fun m => by
    induction m with
    | nil => simp
    | cons a m ih => simp only [List.map_cons, List.sum_cons, List.length_cons]; omega
  have h8 := h7 (parse nW ws 0).1
  have h9 := hok.len
  have h10 := hok.max
  omega
theorem perm_s4 {α : Type} (a b c : α) : [a, b, c].Perm [b, a, c] := .swap _ _ _

set_option maxRecDepth 100000 in
set_option maxHeartbeats 4000000 in
theorem walkSl_any (w : World) (bn bm b : Nat) (Aw : Option Addr) (nw cw : Nat) (ws : List Int) (S : Nat → Bool) (hok : ArnOk nw ws) (hs : (allI (SlI bn bm b 0 (.map []) 0)).P w) (hw : Rd w (fun g => ¬ (allI (SlI bn bm b 0 (.map []) 0)).fp g) 1 Aw nw (u64s (mkW ws (parse nw ws 0).1 S))) (hwf : ∀ x ∈ ws, 0 ≤ x ∧ x ≤ 18446744073709551615) :
    Calls Try.prog 74 #[.slice Aw nw cw, .func (.func 116) #[] #[.pointer (some ⟨bn, 0, none⟩), .pointer (some ⟨bm, 0, none⟩)]] w fun e w' => ∃ D, e = .returned (.bool true) ∧ NowOk (parse nw ws 0).1 (mkd S (parse nw ws 0).1.length) D ∧
      Sep (allI (SlI bn bm b 0 (.map []) 0)).fp w w' [allI (SlI bn bm b (mkd S (parse nw ws 0).1.length).length D (sumO (parse nw ws 0).1 (mkd S (parse nw ws 0).1.length)))] := by
  have C := walkV_any 116 (enter_of Try.func116 (by kernel_rfl) (by kernel_rfl)) #[.pointer (some ⟨bn, 0, none⟩), .pointer (some ⟨bm, 0, none⟩)] w Aw nw cw (mkW ws (parse nw ws 0).1 S) (mk_ok hok S) (allI (SlI bn bm b 0 (.map []) 0)) (fun k it => ∃ D, it = allI (SlI bn bm b (mkd S k).length D (sumO (parse nw ws 0).1 (mkd S k))) ∧ NowOk (parse nw ws 0).1 (mkd S k) D) ⟨.map [], rfl, nowOk_nil _⟩ hs hw (mk_wf hok hwf S)
  rw [mk_parse hok S] at C
  refine (C ?_).mono ?_
  · rintro k it w' hk ⟨D, rfl, hN⟩ hP _ _
    obtain ⟨g1, g2, g3, g4⟩ := mk_parts hok S hk
    obtain ⟨o1, o2, o3, o4, o5, o6, o7⟩ := hok.obj (i := k) hk
    rw [g2, g3]
    have hO := mkd_ok S (parse nw ws 0).1.length k (by omega)
    have hsum := sumO_le hok.pos hO
    have hlen := mkd_len S k
    have hpl := pre_len hok
    have hl := hok.len
    have hmx := hok.max
    cases hsk : S k with
    | false =>
      refine (slots1_no w' bn bm b _ _ D _ _ _ hP).mono ?_
      rintro e w'' ⟨rfl, hS⟩
      have e1 : mkd S (k + 1) = mkd S k := by rw [mkd_succ, hsk]; simp
      refine ⟨rfl, _, ⟨D, rfl, by rw [e1]; exact hN⟩, ?_⟩
      rw [e1]
      exact hS
    | true =>
      refine (slots1_yes w' bn bm b _ _ D _ _ _ hP (by omega) (by omega) o5 (by omega)).mono ?_
      rintro e w'' ⟨rfl, hS⟩
      have e1 : mkd S (k + 1) = mkd S k ++ [(k : Int)] := by rw [mkd_succ, hsk]; simp
      have hput := hN.put (i := (k : Int)) (by omega) (by omega) (mkd_new S k)
      refine ⟨rfl, _, ⟨_, rfl, by rw [e1]; exact hput⟩, ?_⟩
      rw [e1, List.length_append, sumO_snoc]
      exact hS
  · rintro e w' ⟨rfl, it, ⟨D, rfl, hN⟩, hS⟩
    exact ⟨D, rfl, hN, hS⟩

set_option maxRecDepth 100000 in
set_option maxHeartbeats 4000000 in
theorem slots_any (w : World) (Aw : Option Addr) (nw cw : Nat) (ws : List Int) (S : Nat → Bool) (hok : ArnOk nw ws) (hw : Rd w (fun _ => True) 1 Aw nw (u64s (mkW ws (parse nw ws 0).1 S))) (hwf : ∀ x ∈ ws, 0 ≤ x ∧ x ≤ 18446744073709551615) :
    Calls Try.prog 91 #[.slice Aw nw cw] w fun e w' => ∃ b D, e = .returned (.map (some b)) ∧ NowOk (parse nw ws 0).1 (mkd S (parse nw ws 0).1.length) D ∧
      Sep No w w' [mapJ b (mkd S (parse nw ws 0).1.length).length D] := by
  have hmm := @run_makeMap Try.prog
  have hown := World.ownsMap_made (H := Unit) w Try.prog 3 (plainElem Try.prog 3)
  have hS0 := (Sep.nil No w).consNew ((Below.refl _ _).alloc (Nat.le_refl _) (.map #[] 0)) (mapJ w.heap.size 0 (.map [])) hown (fun g hg => by rw [show g = _ from hg]; exact Nat.le_refl _)
  have hS1 := (hS0.blkAt 117 #[.map (some w.heap.size)] (g := w.heap.size + 1) (by simp)).blkAt 3 #[.int .i64 0] (g := w.heap.size + 1 + 1) (by simp)
  have hS2 : Sep No w _ [allI (SlI (w.heap.size + 1 + 1) (w.heap.size + 1) w.heap.size 0 (.map []) 0)] := hS1.fold
  have C := hide (walkSl_any _ (w.heap.size + 1 + 1) (w.heap.size + 1) w.heap.size Aw nw cw ws S hok (hS2.get 0 rfl) (((hw.more (D' := fun g => g < w.heap.size) (fun k hk _ => hk)).below hS2.below_).more (fun g _ hg hf => by
      rcases hS2.lo 0 rfl g hf with h | h
      · exact h
      · omega)) hwf)
  have HS2 := hide hS2
  clear hown hS0 hS1 hS2
  go_enter Try.func91, Try.ntmps91
  go_wp2_with fail
  refine C.out.mono ?_
  rintro e w1 ⟨D, rfl, hN, hQ⟩
  have hS3 := (HS2.out.call 0 rfl hQ).flat
  obtain ⟨b1, b2, b3, b4⟩ := hS3.rules 1 (g := w.heap.size + 1) (t := 117) rfl
  have b5 := b1 0
  have HS3 := hide hS3
  have HN := hide hN
  clear b1 b4 hS3 hQ HS2 C hN hmm
  go_wp2_with fail
  go_ret
  first
    | exact ⟨w.heap.size, D, rfl, HN.out, HS3.out.sub (by simp [SlI])⟩
    | exact ⟨_, _, ⟨rfl⟩, HN.out, HS3.out.sub (by simp [SlI])⟩

set_option maxRecDepth 100000 in
set_option maxHeartbeats 8000000 in
theorem slturned_any (w : World) (A : Option Addr) (n c b nn nW : Nat) (D : DataW Unit) (ws xs L : List Int) (hX : Rd w (fun _ => True) 1 A n (u64s xs)) (hn : n ≤ 1000) (hM : (mapJ b nn D).P w) (hN : NowOk (parse nW ws 0).1 L D) (hL : ∀ x ∈ xs, GoodW (parse nW ws 0).1 x ∧ (unR x = true → (ixOf (parse nW ws 0).1 (unA x) : Int) ∈ L)) (hq : ∀ i ∈ L, newAt (parse nW ws 0).1 L i < 256) :
    Calls Try.prog 92 #[.slice A n c, .map (some b)] w fun e w' => ∃ A' c', e = .returned (.slice A' n c') ∧ Sep No w w' [rowI 24 1 A' n c' (u64s (xs.map (transW (parse nW ws 0).1 L)))] := by
  have HXL := hide (show xs.length = n by have := hX.1; simpa [u64s] using this)
  have HLL := hide hL
  have HNN := hide hN
  have HQQ := hide hq
  have HS0 := hide ((Sep.nil No w).nilRow0 24 1)
  obtain ⟨pre, hpre⟩ : ∃ pre, (parse nW ws 0).1 = pre := ⟨_, rfl⟩
  rw [hpre] at HLL HNN HQQ ⊢
  clear hpre hL hN hq
  go_enter Try.func92, Try.ntmps92
  go_wp2_with fail
  go_loopw [5, 12] (fun s5 i wr => ∃ (k : Nat) (A' : Option Addr) (c' : Nat), k ≤ n ∧ i = .int .i64 k ∧ s5 = .slice A' k c' ∧ Sep No w wr [rowI 24 1 A' k c' (u64s ((xs.take k).map (transW pre L)))]) (fun _ i _ => n - (intOf i).toNat)
  case atStart => exact ⟨0, none, 0, by omega, rfl, rfl, HS0.out⟩
  case round =>
    clear HS0
    obtain ⟨k, A', c', hk, rfl, rfl, hS⟩ := hrel
    by_cases hlt : k < n
    · have hkl : k < xs.length := by rw [HXL.out]; exact hlt
      have hbb := hS.below_
      obtain ⟨ad, hA, _, had, hc⟩ := (hX.below hbb).at_ hlt
      have e0 := hc (.int .u64 xs[k]) (by simp [u64s, List.getElem?_eq_getElem hkl])
      have hown : wr.ownsMap Try.prog 3 (plainElem Try.prog 3) b nn D := (mapJ b nn D).loc w wr hbb.size (fun g hg => hbb.block g ((mapJ b nn D).dom w hM g hg)) hM
      have HT := hide (show (xs.take (k + 1)).map (transW pre L) = (xs.take k).map (transW pre L) ++ [transW pre L xs[k]] from by rw [List.take_succ_eq_append_getElem hkl, List.map_append]; rfl)
      obtain ⟨hgx, hin⟩ := HLL.out _ (List.getElem_mem hkl)
      obtain ⟨x, hx⟩ : ∃ x, xs[k] = x := ⟨_, rfl⟩
      rw [hx] at e0 HT hgx hin
      subst hA
      have HS := hide hS
      have hx0 := hgx.lo
      have hx1 := hgx.hi
      clear hc hx hbb hS
      cases hr : unR x with
      | false =>
        have C := hide (ref_num wr x hx0 hx1 (hgx.num hr))
        have HTR := hide (show transW pre L x = x from by unfold transW; rw [if_neg (by rw [hr]; simp)])
        clear hgx hin hr hown
        go_wp2_with fail
        refine C.out.mono ?_
        rintro e w3 ⟨rfl, rfl⟩
        go_wp2_with (first
          | (at_builtin
             refine wpList_app1 (cs := #[.int .u64 x]) rfl (.tmp 27) (.tmp 29) 53 rfl sWord HS.out 0 (n := k) rfl rfl rfl (by simp) rfl rfl (by omega) ?_
             intro A4 c4 w4 hS4 hC4))
        go_roundw
        case rel => exact ⟨k + 1, A4, c4, by omega, by go_num, rfl, by rw [HT.out, HTR.out, u64s_snoc]; exact hS4⟩
        case measure => simp [intOf]; omega
      | true =>
        obtain ⟨r1, r2, r3, r4, r5⟩ := hgx.ref hr
        have hin := hin hr
        obtain ⟨q, hq⟩ : ∃ q, newAt pre L (ixOf pre (unA x) : Int) = q := ⟨_, rfl⟩
        have hat := HNN.out.at_ (ixOf pre (unA x) : Int) (by omega) (by omega) hin
        have hq2 := HQQ.out _ hin
        rw [hq] at hat hq2
        have HTR := hide (show transW pre L x = 2 * (q : Int) from by unfold transW; rw [if_pos hr, hq])
        have C := ref_ref wr x hx0 hx1 r1
        obtain ⟨y, hy⟩ : ∃ y, x / 2 = y := ⟨_, rfl⟩
        rw [hy] at C r4
        rw [r4] at hat
        have hwf : (Lit.int .i64 y).wf = true := WalkArith.wf_i64 (by omega)
        have HAT := hide hat
        have C := hide C
        clear hgx hin hr hq hat r1 r2 r3 r4 r5 hy
        go_wp2_with fail
        refine C.out.mono ?_
        rintro e w3 ⟨rfl, rfl⟩
        have W1 : IntKind.u64.wrap ((q : Int) * 2) = 2 * (q : Int) := by simp only [IntKind.wrap_u64]; omega
        go_wp2_with (first
          | (at_lookup
             refine wpList_lookup_own_int _ rfl _ _ 117 rfl 3 3 .i64 (int_keyed Try.underlying3) Try.underlying117 Try.underlying3 (zeroInt_ _) b nn _ rfl hown _ _ rfl (keyOf_int_mk Try.underlying3 hwf) ?_
             intro c hat hwc
             (obtain rfl : c = (q : Int) := by
                have h9 := (HAT.out (.lit (.int .i64 0))).symm.trans hat
                injection h9 with h9; injection h9 with _ h9; exact h9.symm)
             clear hat hwc)
          | (at_builtin
             refine wpList_app1 (cs := #[.int .u64 (2 * (q : Int))]) rfl (.tmp 27) (.tmp 29) 53 rfl sWord HS.out 0 (n := k) rfl rfl rfl (by simp) rfl rfl (by omega) ?_
             intro A4 c4 w4 hS4 hC4))
        go_roundw
        case rel => exact ⟨k + 1, A4, c4, by omega, by go_num, rfl, by rw [HT.out, HTR.out, u64s_snoc]; exact hS4⟩
        case measure => simp [intOf]; omega
    · obtain rfl : k = n := by omega
      rw [show xs.take k = xs from List.take_of_length_le (by rw [HXL.out]; omega)] at hS
      go_wp2_with fail
      go_ret
      exact ⟨A', c', rfl, hS⟩
end Go.Proofs.Ytpbafmdebflbpaa

namespace Go.Proofs.Ytpbafmdebflbpaa
open Go.RowKit Go.Maps

/-- What Slide's function has in hand. -/
def SdI (bo bt bm b nn : Nat) (D : DataW Unit) (Ao : Option Addr) (no co : Nat) (xs : List Int) (Ar : Option Addr) (nr cr : Nat) (Am : Option Addr) (nm cm : Nat) (Ar2 : Option Addr) (nr2 cr2 : Nat) : List Item :=
  [rowI 24 1 Ao no co (u64s xs), blkI bo 55 #[.slice Ao no co, .slice Ar nr cr], mapJ b nn D, blkI bt 117 #[.map (some b)], blkI bm 55 #[.slice Am nm cm, .slice Ar2 nr2 cr2]]

set_option maxRecDepth 100000 in
set_option maxHeartbeats 4000000 in
theorem slide1_no (w : World) (bo bt bm b nn no co nr cr nm cm nr2 cr2 : Nat) (D : DataW Unit) (Ao Ar Am Ar2 : Option Addr) (xs : List Int) (at_ len : Nat) (age : Int) (hs : (allI (SdI bo bt bm b nn D Ao no co xs Ar nr cr Am nm cm Ar2 nr2 cr2)).P w) :
    Calls Try.prog 93 #[.int .i64 at_, .agg #[.int .i64 len, .bool false, .int .i64 age], .pointer (some ⟨bo, 0, none⟩), .pointer (some ⟨bm, 0, none⟩), .pointer (some ⟨bt, 0, none⟩)] w fun e w' => e = .returned (.bool true) ∧
      Sep (allI (SdI bo bt bm b nn D Ao no co xs Ar nr cr Am nm cm Ar2 nr2 cr2)).fp w w' [allI (SdI bo bt bm b nn D Ao no co xs Ar nr cr Am nm cm Ar2 nr2 cr2)] := by
  have HS := hide (Sep.start hs)
  clear hs
  go_enter Try.func93, Try.ntmps93
  go_wp2_with fail
  go_ret
  exact ⟨rfl, HS.out.alloc _⟩

set_option maxRecDepth 100000 in
set_option maxHeartbeats 16000000 in
theorem slide1_yes (w : World) (Dw : Nat → Prop) (bo bt bm b nn no co nr cr nm cm nr2 cr2 nW : Nat) (D : DataW Unit) (Ao Ar Am Ar2 : Option Addr) (ws vs xs ys L : List Int) (at_ len : Nat) (age : Int) (hs : (allI (SdI bo bt bm b nn D Ao no co xs Ar nr cr Am nm cm Ar2 nr2 cr2)).P w) (hD : ∀ g, (allI (SdI bo bt bm b nn D Ao no co xs Ar nr cr Am nm cm Ar2 nr2 cr2)).fp g → ¬ Dw g)
    (hV : WsD w Dw Am nm cm vs) (hnm : nm ≤ 256) (hok : unheadOK (vs.getD at_ 0)) (hlen : hLen (vs.getD at_ 0) = (len : Int)) (hl : at_ + 1 + len ≤ nm) (hl4 : len ≤ 4) (ha0 : 0 ≤ age) (ha7 : age ≤ 7) (hno : no ≤ 1000) (hys : (vs.drop (at_ + 1)).take len = ys)
    (hN : NowOk (parse nW ws 0).1 L D) (hL : ∀ x ∈ ys, GoodW (parse nW ws 0).1 x ∧ (unR x = true → (ixOf (parse nW ws 0).1 (unA x) : Int) ∈ L)) (hq : ∀ i ∈ L, newAt (parse nW ws 0).1 L i < 256) :
    Calls Try.prog 93 #[.int .i64 at_, .agg #[.int .i64 len, .bool true, .int .i64 age], .pointer (some ⟨bo, 0, none⟩), .pointer (some ⟨bm, 0, none⟩), .pointer (some ⟨bt, 0, none⟩)] w fun e w' => ∃ A' c', e = .returned (.bool true) ∧
      Sep (allI (SdI bo bt bm b nn D Ao no co xs Ar nr cr Am nm cm Ar2 nr2 cr2)).fp w w' [allI (SdI bo bt bm b nn D A' (no + (1 + len)) c' (xs ++ headW len false age :: ys.map (transW (parse nW ws 0).1 L)) Ar nr cr Am nm cm Ar2 nr2 cr2)] := by
  obtain ⟨F, hF⟩ : ∃ F, (allI (SdI bo bt bm b nn D Ao no co xs Ar nr cr Am nm cm Ar2 nr2 cr2)).fp = F := ⟨_, rfl⟩
  have hS := (Sep.start hs).flat
  rw [hF] at hS hD ⊢
  clear hF hs
  have hS1 := hS.blkAt 23 #[.int .i64 len, .bool true, .int .i64 age] rfl
  have FD := hide (fun w' hc => fieldsD_any w' Dw Am nm cm at_ len vs (hV.chg (S := F) (w' := w') hc hD) hnm hok hlen hl)
  rw [hys] at FD
  have TR := hide (fun w' A c hX hM => slturned_any w' A len c b nn nW D ws ys L hX (by omega) hM hN hL hq)
  obtain ⟨zs, hzs⟩ : ∃ zs, ys.map (transW (parse nW ws 0).1 L) = zs := ⟨_, rfl⟩
  rw [hzs] at TR ⊢
  obtain ⟨b1, b2, b3, b4⟩ := hS1.rules 1 (g := bo) (t := 55) rfl
  have HS1 := hide hS1
  clear hS hS1 hys hzs hN hL hq hV hok hlen b1 b2 b3 b4
  go_enter Try.func93, Try.ntmps93
  go_wp2_with fail
  refine (head14_ok _ (len : Int) _ false (by omega) (by omega) (by omega) (by omega)).mono ?_
  rintro e w6 ⟨rfl, hb6⟩
  have hS7 := HS1.out.below hb6
  obtain ⟨b1, b2, b3, b4⟩ := hS7.rules 1 (g := bo) (t := 55) rfl
  have b5 : w6.cell? ⟨bo, 0, none⟩ = some (.slice Ao no co) := by rw [b1]; rfl
  obtain ⟨c1, c2, c3, c4⟩ := hS7.rules 3 (g := bt) (t := 117) rfl
  have c5 : w6.cell? ⟨bt, 0, none⟩ = some (.map (some b)) := by rw [c1]; rfl
  obtain ⟨d1, d2, d3, d4⟩ := hS7.rules 4 (g := bm) (t := 55) rfl
  have d5 : w6.cell? ⟨bm, 0, none⟩ = some (.slice Am nm cm) := by rw [d1]; rfl
  have M1 : True := trivial
  have HS7 := hide hS7
  clear b1 b2 b4 c1 c2 c4 d1 d2 d4 hb6 HS1 hS7 ha0 ha7 hD hnm
  go_wp2_with fail
  go_cut [] from 21 (fun wc => ∃ (A' : Option Addr) (c' : Nat), Sep F w wc [rowI 24 1 A' (no + 1 + len) c' (u64s xs ++ (#[Value.int .u64 (headW len false age)] : Array Value).toList ++ u64s zs), blkI bo 55 #[.slice A' (no + 1 + len) c', .slice Ar nr cr], mapJ b nn D, blkI bt 117 #[.map (some b)], blkI bm 55 #[.slice Am nm cm, .slice Ar2 nr2 cr2], blkI w.heap.size 23 #[.int .i64 len, .bool true, .int .i64 age]])
  case first =>
    go_region_law (first
      | (have M := M1
         clear M M1
         refine step_app1d (cs := #[.int .u64 (headW len false age)]) rfl (.tmp 22) (.tmp 24) 53 rfl (F := F) (W := w) sWord (items := _ :: _ :: _ :: _ :: _ :: _) HS7.out 0 (n := no) rfl rfl rfl (by simp) rfl rfl (by omega) ?_
         intro A7 c7 w7 hS8 hC8
         obtain ⟨z1, z2, z3, z4⟩ := hS8.rules 4 (g := bm) (t := 55) rfl
         (have z5 : w7.cell? ⟨bm, 0, none⟩ = some (.slice Am nm cm) := by rw [z1]; rfl)
         obtain ⟨zz1, zz2, zz3, zz4⟩ := hS8.rules 3 (g := bt) (t := 117) rfl
         (have zz5 : w7.cell? ⟨bt, 0, none⟩ = some (.map (some b)) := by rw [zz1]; rfl)
         (have HS8 := hide hS8)
         clear z1 z2 z3 z4 zz1 zz2 zz3 zz4 hC8 hS8)
      | (try go_simp
         go_at_call 79
         refine (FD.out w7 HS8.out.bel).mono ?_
         rintro e w8 ⟨A8, c8, rfl, hb8, hR8⟩
         have hS9 := HS8.out.below hb8
         have hR9 := (hR8.below hb8).more (D' := fun _ => True) (fun _ _ _ => trivial)
         have HTR := hide (TR.out w8 A8 c8 hR9 (hS9.get 2 rfl))
         obtain ⟨y1, y2, y3, y4⟩ := hS9.rules 3 (g := bt) (t := 117) rfl
         (have y5 : w8.cell? ⟨bt, 0, none⟩ = some (.map (some b)) := by rw [y1]; rfl)
         (have HS9 := hide hS9)
         clear y1 y2 y3 y4 hS9 hR9 hR8 hb8)
      | (try go_simp
         go_at_call 92
         refine HTR.out.mono ?_
         rintro e w9 ⟨A9, c9, rfl, hP9⟩
         have HS10 := hide (HS9.out.below hP9.below_)
         have HR10 := hide (hP9.rd_ 0 rfl)
         clear hP9)
      | (refine step_app rfl (.tmp 25) (.tmp 31) 53 rfl sWord HS10.out 0 (n := no + 1) rfl rfl rfl HR10.out (u64s_one _) (by omega) ?_
         intro A11 c11 w11 hS11 hC11
         obtain ⟨x1, x2, x3, x4⟩ := hS11.rules 1 (g := bo) (t := 55) rfl
         (have x5 : w11.cell? ⟨bo, 0, none⟩ = some (.slice Ao no co) := by rw [x1]; rfl)
         (have HS11 := hide hS11)
         clear x1 x4 hC11 hS11))
    all_goals
      go_wp2_with fail
      go_meet
      case rel => exact ⟨A11, c11, HS11.out.set_ 1 (g := bo) (t := 55) rfl 0 (.slice A11 (no + 1 + len) c11)⟩
  case rest =>
    obtain ⟨A', c', hS⟩ := hcut
    have HF := hide (hS.sub (l := SdI bo bt bm b nn D A' (no + 1 + len) c' (xs ++ headW len false age :: zs) Ar nr cr Am nm cm Ar2 nr2 cr2) (by
      have hE : u64s (xs ++ headW len false age :: zs) = u64s xs ++ (#[Value.int .u64 (headW len false age)] : Array Value).toList ++ u64s zs := by simp [u64s]
      unfold SdI
      rw [hE]
      simp)).fold
    clear hS HS7 FD TR b3 b5 c3 c5 d3 d5
    go_wp2_with fail
    go_ret
    rw [show no + (1 + len) = no + 1 + len from by omega]
    first | exact ⟨A', c', rfl, HF⟩ | exact ⟨rfl, A', c', HF⟩ | exact ⟨A', c', HF⟩
end Go.Proofs.Ytpbafmdebflbpaa

namespace Go.Proofs.Ytpbafmdebflbpaa
open Go.RowKit

theorem perm_a7 {α : Type} (n a b c d e f : α) : [n, a, b, c, d, e, f].Perm [n, b, c, d, e, f, a] := by
  classical
  rw [List.perm_iff_count]
  intro x
  simp only [List.count_cons, List.count_nil]
  omega
theorem pack_step {w w7 : World} {A7 Ao A : Option Addr} {n7 c7 no co k c b : Nat} {xs : List Int} {l : List Val} {at_ : List Int} {X Y : Item} {rest : List Item} (hn : no ≤ 1000) (hk : k ≤ 1000) (h7 : n7 ≤ 1000)
    (hS : Sep No w w7 (rowI 24 1 A7 n7 c7 (u64s xs) :: rowI 2 1 A k c (ints at_) :: X :: Y :: blkI b 108 #[.slice A k c] :: rest)) (hl : Rd w (fun _ => True) 2 Ao no (vals l)) (hv : ∀ v ∈ l, v.1 = true → 0 ≤ v.2 ∧ v.2 < k) :
    Calls Try.prog 59 #[.slice A7 n7 c7, .slice Ao no co, .pointer (some ⟨b, 0, none⟩)] w7 fun e w8 => ∃ A8 c8, e = .returned (.slice A8 (n7 + no) c8) ∧
      Sep No w w8 (rowI 24 1 A8 (n7 + no) c8 (u64s (xs ++ l.map (packV at_))) :: rowI 2 1 A k c (ints at_) :: X :: Y :: blkI b 108 #[.slice A k c] :: rest) := by
  refine (pack_any w7 (fun g => ¬ (rowI 24 1 A7 n7 c7 (u64s xs)).fp g) A7 Ao A n7 c7 no co k c b xs l at_ hn hk h7 (hS.get 0 rfl) (fun g hg hn => hn hg) (hS.get 4 rfl)
    (fun hg => hS.other (a := 0) (b := 4) rfl rfl (by omega) b hg rfl)
    (((hl.more (D' := fun g => g < w.heap.size) (fun k hk _ => hk)).below hS.below_).more (fun g _ hg hf => by
      rcases hS.lo 0 rfl g hf with h | h
      · exact h
      · omega))
    (Rd.of_own (show w7.ownsRow 0 2 1 (.slice A k c) k (ints at_) from hS.get 1 rfl) (fun g hg hf => hS.other (a := 0) (b := 1) rfl rfl (by omega) g hf (by subst hg; rfl))) hv).mono ?_
  rintro e w8 ⟨A8, c8, rfl, hP⟩
  exact ⟨A8, c8, rfl, hS.call 0 rfl hP⟩

set_option maxHeartbeats 4000000 in
theorem lay_bad (w : World) (AO AR : Option Addr) (nO cO nR cR : Nat) (obs : List Ob) (roots : List Val) (x : Int) (hx : gcheck nO nR obs roots = x) (hx0 : x ≠ 0) (hO : ObsRd w (fun _ => True) AO nO obs) (hR : Rd w (fun _ => True) 2 AR nR (vals roots)) :
    Calls Try.prog 26 #[.agg #[.slice AO nO cO, .slice AR nR cR]] w fun e w' => e = .returned (.tuple #[.agg #[.slice none 0 0, .slice none 0 0], .int .i64 x]) ∧ Below w.heap.size w w' := by
  have hB0 : Below w.heap.size w ((w.alloc (.cells #[.slice AO nO cO, .slice AR nR cR] 52)).alloc (.cells #[.slice none 0 0, .slice none 0 0] 55)) := ((Below.refl _ w).alloc (Nat.le_refl _) _).alloc (by simp) _
  have C := hide (graphCheck_any _ AO AR nO cO nR cR obs roots (hO.below hB0) (hR.below hB0))
  rw [hx] at C
  have bR := (Blk.new (w.alloc (.cells #[.slice AO nO cO, .slice AR nR cR] 52)) 55 #[.slice none 0 0, .slice none 0 0])
  rw [World.size_alloc] at bR
  have BR := hide bR
  have HB0 := hide hB0
  have y1 : (x != 0) = true := by rw [bne_iff_ne]; exact hx0
  clear hx hx0 hO hR hB0 bR
  go_enter Try.func26, Try.ntmps26
  go_wp2_with fail
  refine C.out.mono ?_
  rintro e w1 ⟨rfl, hb1⟩
  have bR1 := BR.out.below_ hb1
  obtain ⟨r1, r2, r3⟩ := bR1.rules
  have hz := hb1.size
  simp at hz
  have hB1 := HB0.out.trans (hb1.mono (by simp; omega))
  go_wp2_with fail
  refine bodyPost_ret (v := .tuple #[.agg #[.slice none 0 0, .slice none 0 0], .int .i64 x]) (by simp [results, Try.results26, go_sem, r1]) rfl ⟨rfl, ?_⟩
  exact (hB1.setCell (p := ⟨w.heap.size + 1, 0, none⟩) (by simp) _).setCell (p := ⟨w.heap.size + 1, 1, none⟩) (by simp) _

set_option maxRecDepth 100000 in
set_option maxHeartbeats 16000000 in
theorem lay_ok (w : World) (AO AR : Option Addr) (nO cO nR cR : Nat) (obs : List Ob) (roots : List Val) (hx : gcheck nO nR obs roots = 0) (hO : ObsRd w (fun _ => True) AO nO obs) (hR : Rd w (fun _ => True) 2 AR nR (vals roots)) (h1 : nO ≤ 24) (h2 : nR ≤ 8) (hfl : ∀ o ∈ obs, o.n ≤ 4)
    (hvO : ∀ o ∈ obs, ∀ v ∈ o.fields, v.1 = true → 0 ≤ v.2 ∧ v.2 < nO) (hvR : ∀ v ∈ roots, v.1 = true → 0 ≤ v.2 ∧ v.2 < nO) :
    Calls Try.prog 26 #[.agg #[.slice AO nO cO, .slice AR nR cR]] w fun e w' => ∃ v, e = .returned (.tuple #[v, .int .i64 0]) ∧ Below w.heap.size w w' ∧ ArenaRd w w' v (wordsL (atL obs nO) obs) (roots.map (packV (atL obs nO))) := by
  have HOL := hide hO.len
  have HSB := hide (fun k => sAt_bound obs k hfl)
  have HFL := hide hfl
  have HVO := hide hvO
  have HVR := hide hvR
  have hS0 := (((Sep.nil No w).blkAt 52 #[.slice AO nO cO, .slice AR nR cR] rfl).blkAt 55 #[.slice none 0 0, .slice none 0 0] (g := w.heap.size + 1) (by simp))
  have C := hide (graphCheck_any _ AO AR nO cO nR cR obs roots (hO.below hS0.below_) (hR.below hS0.below_))
  rw [hx] at C
  have HS0 := hide hS0
  clear hfl hvO hvR hx hS0
  go_enter Try.func26, Try.ntmps26
  go_wp2_with fail
  refine C.out.mono ?_
  rintro e w1 ⟨rfl, hb1⟩
  have hS1 := HS0.out.below hb1
  obtain ⟨g1, g2, g3, g4⟩ := hS1.rules 0 (g := w.heap.size) (t := 52) rfl
  have HS1 := hide ((hS1.blkAt 108 #[.slice none 0 0] rfl).nilRow0 2 1)
  clear C HS0 hb1 hS1
  go_wp2_with fail
  clear g1 g2 g3 g4
  go_loopw [6, 24] (fun s6 i wr => ∃ (k : Nat) (A : Option Addr) (c : Nat), k ≤ nO ∧ i = .int .i64 k ∧ s6 = .int .i64 (sAt obs k) ∧ Sep No w wr [rowI 2 1 A k c (ints (atL obs k)), blkI w.heap.size 52 #[.slice AO nO cO, .slice AR nR cR], blkI (w.heap.size + 1) 55 #[.slice none 0 0, .slice none 0 0], blkI w1.heap.size 108 #[.slice A k c]]) (fun _ i _ => nO - (intOf i).toNat)
  case atStart => exact ⟨0, none, 0, by omega, rfl, by simp [sAt], by simpa [atL] using HS1.out⟩
  case round =>
    clear HS1
    obtain ⟨k, A, c, hk, rfl, rfl, hS⟩ := hrel
    by_cases hlt : k < nO
    · have hkl : k < obs.length := by rw [HOL.out]; exact hlt
      obtain ⟨ad, hA, _, had, hc⟩ := (hO.below hS.below_).row.at_ hlt
      have e0 := hc obs[k].val (by simp [List.getElem?_eq_getElem hkl])
      have hon := HFL.out _ (List.getElem_mem hkl)
      have HT := hide (List.take_succ_eq_append_getElem hkl)
      obtain ⟨o, ho⟩ : ∃ o, obs[k] = o := ⟨_, rfl⟩
      rw [ho] at e0 HT hon
      have HA := hide (sAt_succ obs k o HT.out)
      unfold Ob.val at e0
      subst hA
      obtain ⟨b1, b2⟩ := HSB.out k
      obtain ⟨y, hy⟩ : ∃ y, sAt obs k = y := ⟨_, rfl⟩
      have HY := hide hy
      rw [hy] at b1 b2 ⊢
      have hS5 := hS.blkAt 110 #[.slice o.A o.n o.c] rfl
      obtain ⟨a1, a2, a3, a4⟩ := hS.rules 3 (g := w1.heap.size) (t := 108) rfl
      have hneA : w1.heap.size ≠ wr.heap.size := by omega
      clear hc ho hy
      go_wp2_with (first
        | (at_builtin
           refine wpList_app1 (cs := #[.int .i64 y]) rfl (.tmp 28) (.tmp 30) 108 rfl sI64 hS5 0 (n := k) rfl rfl rfl (by simp) rfl rfl (by omega) ?_
           intro A4 c4 w4 hS4 hC4
           obtain ⟨z1, z2, z3, z4⟩ := hS4.rules 3 (g := w1.heap.size) (t := 108) rfl
           (have z5 : ∀ v, (w4.setCell ⟨w1.heap.size, 0, none⟩ v).cell? ⟨wr.heap.size, 0, none⟩ = some (.slice o.A o.n o.c) := fun v => by
              rw [World.cell?_setCell_other _ _ _ _ (fun e => hneA (congrArg Addr.block e))]
              obtain ⟨q1, _⟩ := hS4.rules 4 (g := wr.heap.size) (t := 110) rfl
              rw [q1]; rfl)))
      have hS6 := (hS4.set_ 3 (g := w1.heap.size) (t := 108) rfl 0 (.slice A4 (k + 1) c4)).sub (List.take_sublist 4 _)
      go_roundw
      case rel =>
        refine ⟨k + 1, A4, c4, by omega, by go_num, ?_, ?_⟩
        · rw [HA.out, HY.out] <;> go_num
        · rw [atL_succ, HY.out, ints_snoc]; exact hS6
      case measure => simp [intOf]; omega
    · obtain rfl : k = nO := by omega
      obtain ⟨g1, g2, g3, g4⟩ := hS.rules 1 (g := w.heap.size) (t := 52) rfl
      obtain ⟨wo, rfl⟩ : ∃ wo : World, wo = wr := ⟨_, rfl⟩
      have HS4 := hide ((hS.blkAt 55 #[.slice none 0 0, .slice none 0 0] rfl).nilRow0 24 1)
      clear hS
      go_wp2_with fail
      clear g1 g2 g3 g4
      go_loopw [43] (fun i w5 => ∃ (j m : Nat) (Aw : Option Addr) (cw : Nat), j ≤ k ∧ i = .int .i64 j ∧ Sep No w w5 [rowI 24 1 Aw m cw (u64s (wordsL (atL obs k) (obs.take j))), rowI 2 1 A k c (ints (atL obs k)), blkI w.heap.size 52 #[.slice AO k cO, .slice AR nR cR], blkI (w.heap.size + 1) 55 #[.slice none 0 0, .slice none 0 0], blkI w1.heap.size 108 #[.slice A k c], blkI wo.heap.size 55 #[.slice Aw m cw, .slice none 0 0]]) (fun i _ => k - (intOf i).toNat)
      case atStart => exact ⟨0, 0, none, 0, by omega, rfl, HS4.out⟩
      case round =>
        clear HS4
        obtain ⟨j, m, Aw, cw, hj, rfl, hS⟩ := hrel
        have hm := u64s_row hS 0 rfl
        have hml := wordsL_len (atL obs k) (obs.take j) (fun o ho => by
          have h5 := List.mem_of_mem_take ho
          rw [hO.flen h5]
          exact HFL.out o h5)
        have hm2 : m ≤ 5 * j := by
          rw [List.length_take] at hml
          omega
        clear hm hml
        by_cases hlt2 : j < k
        · have hjl : j < obs.length := by rw [HOL.out]; exact hlt2
          obtain ⟨ad, hA, _, had, hc⟩ := (hO.below hS.below_).row.at_ hlt2
          have e0 := hc obs[j].val (by simp [List.getElem?_eq_getElem hjl])
          have hon := HFL.out _ (List.getElem_mem hjl)
          have hEach := hO.each _ (List.getElem_mem hjl)
          have hVo := HVO.out _ (List.getElem_mem hjl)
          have hFl := hO.flen (List.getElem_mem hjl)
          have HT := hide (List.take_succ_eq_append_getElem hjl)
          obtain ⟨o, ho⟩ : ∃ o, obs[j] = o := ⟨_, rfl⟩
          rw [ho] at e0 HT hon hEach hVo hFl
          unfold Ob.val at e0
          subst hA
          have HVo := hide hVo
          have hS5 := hS.blkAt 110 #[.slice o.A o.n o.c] rfl
          clear hc ho hVo
          go_wp2_with fail
          refine (head14_ok _ (o.n : Int) 0 false (by omega) (by omega) (by omega) (by omega)).mono ?_
          rintro e w6 ⟨rfl, hB6⟩
          have hS6 := hS5.below hB6
          clear hS5 hB6 e0 had hS
          obtain ⟨a1, a2, a3, a4⟩ := hS6.rules 5 (g := wo.heap.size) (t := 55) rfl
          obtain ⟨q1, q2, q3, q4⟩ := hS6.rules 6 (g := wr.heap.size) (t := 110) rfl
          have hSb : Sep No w w6 (rowI 24 1 Aw m cw (u64s (wordsL (atL obs k) (obs.take j))) :: rowI 2 1 A k c (ints (atL obs k)) :: blkI w.heap.size 52 #[.slice (some ad) k cO, .slice AR nR cR] :: blkI (w.heap.size + 1) 55 #[.slice none 0 0, .slice none 0 0] :: blkI w1.heap.size 108 #[.slice A k c] :: blkI wo.heap.size 55 #[.slice Aw m cw, .slice none 0 0] :: [blkI wr.heap.size 110 #[.slice o.A o.n o.c]]) := hS6
          have a5 : w6.cell? ⟨wo.heap.size, 0, none⟩ = some (.slice Aw m cw) := by rw [a1]; rfl
          have q5 : w6.cell? ⟨wr.heap.size, 0, none⟩ = some (.slice o.A o.n o.c) := by rw [q1]; rfl
          clear a1 q1 a4 q4 hS6 HFL HSB HVO HVR
          go_wp2_with fail
          go_region_law (first
            | (refine step_app1d (cs := #[.int .u64 (headW o.n false 0)]) rfl (.tmp 57) (.tmp 59) 53 rfl (F := No) (W := w) sWord (items := rowI 24 1 Aw m cw (u64s (wordsL (atL obs k) (obs.take j))) :: rowI 2 1 A k c (ints (atL obs k)) :: blkI w.heap.size 52 #[.slice (some ad) k cO, .slice AR nR cR] :: blkI (w.heap.size + 1) 55 #[.slice none 0 0, .slice none 0 0] :: blkI w1.heap.size 108 #[.slice A k c] :: blkI wo.heap.size 55 #[.slice Aw m cw, .slice none 0 0] :: [blkI wr.heap.size 110 #[.slice o.A o.n o.c]]) hSb 0 (n := m) rfl rfl rfl (by simp) rfl rfl (by omega) ?_
               intro A7 c7 w7 hS7 hC7
               (have hS7' : Sep No w w7 (rowI 24 1 A7 (m + 1) c7 (u64s (wordsL (atL obs k) (obs.take j) ++ [headW o.n false 0])) :: rowI 2 1 A k c (ints (atL obs k)) :: blkI w.heap.size 52 #[.slice (some ad) k cO, .slice AR nR cR] :: blkI (w.heap.size + 1) 55 #[.slice none 0 0, .slice none 0 0] :: blkI w1.heap.size 108 #[.slice A k c] :: blkI wo.heap.size 55 #[.slice Aw m cw, .slice none 0 0] :: [blkI wr.heap.size 110 #[.slice o.A o.n o.c]]) := by rw [u64s_snoc]; exact hS7)
               obtain ⟨i1, i2, i3, i4⟩ := hS7'.rules 5 (g := wo.heap.size) (t := 55) rfl
               obtain ⟨j1, j2, j3, j4⟩ := hS7'.rules 6 (g := wr.heap.size) (t := 110) rfl
               (have j5 : w7.cell? ⟨wr.heap.size, 0, none⟩ = some (.slice o.A o.n o.c) := by rw [j1]; rfl)
               clear hS7 hC7 i1 j1)
            | (go_simp
               go_at_call 59
               refine (pack_step (co := o.c) (by omega) (by omega) (by omega) hS7' hEach HVo.out).mono ?_
               rintro e w8 ⟨A8, c8, rfl, hS8⟩
               obtain ⟨z1, z2, z3, z4⟩ := hS8.rules 5 (g := wo.heap.size) (t := 55) rfl))
          all_goals
            go_wp2_with fail
            go_roundw
            case rel =>
              refine ⟨j + 1, m + 1 + o.n, A8, c8, by omega, by go_num, ?_⟩
              rw [HT.out, wordsL_snoc, List.append_cons]
              have hS' := (hS8.set_ 5 (g := wo.heap.size) (t := 55) rfl 0 (.slice A8 (m + 1 + o.n) c8)).sub (List.take_sublist 6 _)
              exact hS'
            case measure => simp [intOf]; omega
        · obtain rfl : j = k := by omega
          rw [show obs.take j = obs from List.take_of_length_le (by rw [HOL.out]; omega)] at hS
          obtain ⟨g1, g2, g3, g4⟩ := hS.rules 2 (g := w.heap.size) (t := 52) rfl
          have hS5 := (hS.nilRow0 24 1)
          have hS6 := hS5.perm (perm_a7 _ _ _ _ _ _ _)
          go_wp2_with fail
          refine (pack_step (xs := []) (co := cR) (by omega) (by omega) (by omega) hS6 hR HVR.out).mono ?_
          rintro e w8 ⟨A8, c8, rfl, hS8⟩
          rw [Nat.zero_add, List.nil_append] at hS8
          rw [Nat.zero_add]
          obtain ⟨a1, a2, a3, a4⟩ := hS8.rules 5 (g := wo.heap.size) (t := 55) rfl
          have hS9 := hS8.set_ 5 (g := wo.heap.size) (t := 55) rfl 1 (.slice A8 nR c8)
          obtain ⟨_, y2, y3, y4⟩ := hS8.rules 3 (g := w.heap.size + 1) (t := 55) rfl
          obtain ⟨y1, _, _, _⟩ := hS9.rules 3 (g := w.heap.size + 1) (t := 55) rfl
          clear g1 g2 g3 g4 hS hS5 hS6
          go_wp2_with fail
          have hF := (hS9.set_ 3 (g := w.heap.size + 1) (t := 55) rfl 0 (.slice Aw m cw)).set_ 3 (g := w.heap.size + 1) (t := 55) rfl 1 (.slice A8 nR c8)
          refine bodyPost_ret (v := .tuple #[.agg #[.slice Aw m cw, .slice A8 nR c8], .int .i64 0]) (by simp [results, Try.results26, go_sem, y1]) rfl ⟨_, rfl, hF.below_, ?_⟩
          exact ⟨_, _, _, _, _, _, rfl, hF.rd 6 rfl, hF.rd 0 rfl⟩
end Go.Proofs.Ytpbafmdebflbpaa
