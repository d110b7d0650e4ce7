/- Share's reference: by which way two are told apart. -/
import Derived.Test.YtikaaekhghcodaaSShareTells12
import Derived.Test.YtikaaekhghcodaaSShareTells13
import Derived.BigQuiet
import Derived.StillTailTactics
set_option linter.unusedSimpArgs false
set_option linter.unusedVariables false
namespace Go.Proofs.Ytikaaekhghcodaa
open Go.RowKit
set_option maxRecDepth 100000 in
set_option maxHeartbeats 6400000 in
theorem rtold_any (w : World) (AO AR : Option Addr) (nO cO nR cR : Nat) (obs : List Ob) (roots : List Val) (hok : GOk nO nR obs roots) (hO : ObsRd w (fun _ => True) AO nO obs) (a b : Nat) (ha : a < nO) (hb : b < nO) :
    Calls Try.prog 7 #[.agg #[.slice AO nO cO, .slice AR nR cR], .int .i64 (a : Int), .int .i64 (b : Int)] w fun e w' => ∃ A n c, e = .returned (.tuple #[.slice A n c, .bool (toldR (obs.map Ob.fields) (a, b)).2]) ∧
      Sep No w w' [rowI 3 1 A n c (nts (toldR (obs.map Ob.fields) (a, b)).1)] := by
  have hnO := hok.nO_
  obtain ⟨ado, _, _, hA0, _⟩ := ob_at hO hok.fl ha
  subst hA0
  have HOK := hide hok
  have HOO := hide hO
  obtain ⟨gs, hgs⟩ : ∃ gs, obs.map Ob.fields = gs := ⟨_, rfl⟩
  have HGS := hide hgs
  have HREF := hide (show RefOk gs nO from by rw [← hgs]; exact hok.vg)
  rw [hgs]
  obtain ⟨⟨W0, is⟩, hTR⟩ : ∃ v, toldR gs (a, b) = v := ⟨_, rfl⟩
  rw [hTR]
  have HTR := hide hTR
  clear hTR
  dsimp only
  have hS0 := (Sep.nil No w).blkAt 25 #[.slice (some ado) nO cO, .slice AR nR cR] rfl
  have HS0 := hide hS0
  obtain ⟨a1, a2, a3, a4⟩ := hS0.rules 0 (g := w.heap.size) (t := 25) rfl
  have a5 := (a1 0).trans (show _ = some (.slice (some ado) nO cO) from rfl)
  have a6 := (a1 1).trans (show _ = some (.slice AR nR cR) from rfl)
  have hm1 : nO * nO ≤ 576 := Nat.mul_le_mul hnO hnO
  obtain ⟨N, hN⟩ : ∃ N, nO * nO = N := ⟨_, rfl⟩
  have HN := hide hN
  have hNi : ((nO : Int) * (nO : Int)) = (N : Int) := by rw [← hN]; simp
  rw [hN] at hm1
  have hmx : Try.prog.follows .mixedOrders = true := by kernel_rfl
  clear hok hO hgs hS0 a1 a4 hN
  go_enter Try.func7, Try.ntmps7
  go_wp2_with (first
    | (at_make
       refine wpList_make rfl (.tmp 27) (.tmp 27) 53 rfl HS0.out Try.underlying53 bInfo (by omega) .i64 .i64 N rfl rfl (by omega) ?_
       intro wM hSM hbM
       (rw [bMade, World.size_alloc, ← HN.out, ← seenB_nil, HN.out] at hSM)
       obtain ⟨gM, hgM⟩ : ∃ x, wM.heap.size = x := ⟨_, rfl⟩
       (have HSM := hide (sh_start hgM hSM a b))
       clear hSM hbM a2 a3 a5 a6))
  go_loopg [10, 11, 12, 13, 14, 15, 16, 17, 18, 19, 20, 21] 600 (fun f s10 s11 s12 _ _ _ _ _ _ _ _ _ wr => ∃ (T : List Wy) (seen : List Pr) (n : Nat) (A1 : Option Addr) (c1 : Nat) (A2 : Option Addr) (c2 : Nat) (A3 : Option Addr) (c3 : Nat), s10 = .slice A1 n c1 ∧ s11 = .slice A2 n c2 ∧ s12 = .slice A3 n c3 ∧ Hid (T.length = n) ∧ Hid (Bi gs nO (a, b) f (T.map Prod.fst) seen) ∧
    Sep No w wr (shL w.heap.size (w.heap.size + 1) N #[.slice (some ado) nO cO, .slice AR nR cR] nO n A1 c1 A2 c2 A3 c3 T seen))
  case atStart => exact ⟨[t0 (a, b)], [], 1, _, 1, _, 1, _, 1, rfl, rfl, rfl, rfl, hide (Bi.start gs ⟨ha, hb⟩), HSM.out⟩
  case round =>
    clear HSM
    obtain ⟨T, seen, n, A1, c1, A2, c2, A3, c3, rfl, rfl, rfl, HTL, HBI, hS⟩ := hrel
    have hn577 : n ≤ 577 := by have := HBI.out.len; rw [List.length_map, HTL.out] at this; exact this
    rcases Nat.eq_zero_or_pos n with rfl | hn0
    · have hT : T = [] := List.eq_nil_of_length_eq_zero HTL.out
      subst hT
      have hB : Bi gs nO (a, b) gk [] seen := HBI.out
      have htr := HTR.out
      rw [hB.none_] at htr
      injection htr with hw1 hw2
      subst hw1 hw2
      have HF := hide ((hS.sub (l := []) (by simp)).nilRow 3 1)
      clear hS HBI hB HTR
      go_wp2_with fail
      refine bodyPost_ret (v := .tuple #[.slice none 0 0, .bool false]) (by simp [results, Try.results7, go_sem]) rfl ⟨none, 0, 0, rfl, HF.out⟩
    · obtain ⟨L, hL⟩ : ∃ L, T.map Prod.fst = L := ⟨_, rfl⟩
      have hLn : L.length = n := by rw [← hL, List.length_map]; exact HTL.out
      have hL0 : L ≠ [] := by intro h; rw [h] at hLn; simp at hLn; omega
      rw [hL] at HBI
      obtain ⟨f, rfl⟩ := HBI.out.pos hnO hL0
      obtain ⟨ad1, rfl⟩ := row_some (hS.get 2 rfl) hn0
      obtain ⟨ad2, rfl⟩ := row_some (hS.get 3 rfl) hn0
      obtain ⟨ad3, rfl⟩ := row_some (hS.get 1 rfl) hn0
      have HLT := hide (show ∀ (i : Nat) (t : Wy), T[i]? = some t → L.getD i pw0 = t.1 from fun i t ht => by rw [← hL, List.getD_eq_getElem?_getD, List.getElem?_map, ht]; rfl)
      have HLN := hide hLn
      have HL0 := hide hL0
      have HND := hide (NoD.nil gs L)
      have HS := hide hS
      clear hS hL hLn hL0
      go_wp2_with fail
      go_loopw [16, 17] (fun s16 _ wx => ∃ i : Nat, i ≤ n ∧ s16 = .int .i64 (i : Int) ∧ Hid (NoD gs L i 0) ∧ Sep No w wx (shL w.heap.size (w.heap.size + 1) N #[.slice (some ado) nO cO, .slice AR nR cR] nO n (some ad1) c1 (some ad2) c2 (some ad3) c3 T seen)) (fun s _ _ => n - (intOf s).toNat)
      case atStart => exact ⟨0, by omega, rfl, HND, HS.out⟩
      case round =>
        clear HS HND
        obtain ⟨i, hi, rfl, HND, hS⟩ := hrel
        by_cases hlt : i < n
        · have hiL : i < L.length := by rw [HLN.out]; exact hlt
          obtain ⟨t, ht⟩ : ∃ t, T[i]? = some t := ⟨T[i]'(by rw [HTL.out]; exact hlt), List.getElem?_eq_getElem _⟩
          have hgd := HLT.out i t ht
          have hrg := (HBI.out.sb (L.getD i pw0) (by rw [getD_at hiL]; exact List.getElem_mem hiL))
          rw [hgd] at hrg
          obtain ⟨⟨⟨p1, p2⟩, u⟩, ⟨Aw, cw⟩⟩ := t
          dsimp only at hgd hrg
          obtain ⟨⟨hp1, hp2⟩, hul⟩ := hrg
          have HT := hide ht
          have HGD := hide hgd
          have HIL := hide hiL
          have HS := hide hS
          clear hS ht hgd hiL
          go_wp2_with fail
          go_loopw [17] (fun s17 wx => ∃ k : Nat, k ≤ 4 ∧ s17 = .int .i64 (k : Int) ∧ Hid (NoD gs L i k) ∧ Sep No w wx (shL w.heap.size (w.heap.size + 1) N #[.slice (some ado) nO cO, .slice AR nR cR] nO n (some ad1) c1 (some ad2) c2 (some ad3) c3 T seen)) (fun s _ => 4 - (intOf s).toNat)
          case atStart => exact ⟨0, by omega, rfl, HND, HS.out⟩
          case round =>
            clear HS HND
            obtain ⟨k, hk, rfl, HND, hS⟩ := hrel
            by_cases hk4 : k < 4
            · obtain ⟨g1, g2, g3, g4⟩ := hS.rules 4 (g := w.heap.size) (t := 25) rfl
              have g5 := (g1 0).trans (show _ = some (.slice (some ado) nO cO) from rfl)
              have g6 := (g1 1).trans (show _ = some (.slice AR nR cR) from rfl)
              obtain ⟨x1, x2⟩ := as_cell (hS.get 2 rfl) hlt HT.out
              obtain ⟨y1, y2⟩ := bs_cell (hS.get 3 rfl) hlt HT.out
              dsimp only at x1 y1
              have C := hide (rdiffers_any wr.drew (some ado) AR nO cO nR cR obs (HOO.out.below hS.drew.below_) HOK.out.fl p1 p2 hp1 hp2 hnO k)
              rw [HGS.out] at C
              obtain ⟨r, hr⟩ : ∃ r, difB gs (p1, p2) k = r := ⟨_, rfl⟩
              rw [hr] at C
              have HR := hide (show difB gs (L.getD i pw0).1 k = r from by rw [HGD.out]; exact hr)
              have HS := hide hS
              have t1 : decide ((k : Int) < 4) = true := by simp; omega
              have t2 : decide (k < 4) = true := by simp; omega
              have hi0 : (0 : Int) ≤ (i : Int) := by omega
              have hi1 : (i : Int) < (n : Int) := by omega
              clear hS hr g1 g4
              cases r with
              | false =>
                have HND2 := hide (HND.out.succ HR.out)
                clear HND HR
                go_wp2_with fail
                go_still_tail 10, hmx
                go_wp2_with fail
                refine C.out.mono ?_
                rintro e w5 ⟨rfl, hb5⟩
                have HS5 := hide (HS.out.drew.below hb5)
                clear hb5 C HS
                go_wp2_with fail
                go_roundw
                case rel => exact ⟨k + 1, by omega, by go_num, HND2, HS5.out⟩
                case measure => simp [intOf]; omega
              | true =>
                have htd := HBI.out.told HL0.out (HND.out.found HIL.out hk4 HR.out)
                rw [HGD.out] at htd
                dsimp only at htd
                rw [HTR.out] at htd
                injection htd with hw1 hw2
                subst hw1 hw2
                clear HND HR HTR
                go_wp2_with fail
                go_still_tail 10, hmx
                go_wp2_with fail
                refine C.out.mono ?_
                rintro e w5 ⟨rfl, hb5⟩
                have hS5 := HS.out.drew.below hb5
                obtain ⟨z1, z2⟩ := wo_cell (hS5.get 1 rfl) hlt HT.out
                dsimp only at z1
                have C5 := hide (rmore_any w5 _ Aw u.length cw u (by omega) (wy_rd (hS5.get 0 rfl) (List.mem_of_getElem? HT.out)) k)
                have HS5 := hide (hS5.sub (l := []) (by simp))
                clear hS5 hb5 C HS
                go_wp2_with fail
                refine C5.out.mono ?_
                rintro e w6 ⟨A6, c6, rfl, hS6⟩
                have HS6 := hide (HS5.out.call0 hS6)
                clear hS6 C5 HS5
                go_wp2_with fail
                refine bodyPost_ret (v := .tuple #[.slice A6 (u.length + 1) c6, .bool true]) (by simp [results, Try.results7, go_sem]) rfl ⟨A6, u.length + 1, c6, rfl, HS6.out⟩
            · obtain rfl : k = 4 := by omega
              have HND2 := hide (HND.out.four HIL.out)
              have HS := hide hS
              clear hS HND
              go_wp2_with fail
              go_roundw
              case rel => exact ⟨i + 1, by omega, by go_num, HND2, HS.out⟩
              case measure => simp [intOf]; omega
        · obtain rfl : i = n := by omega
          have HDN := hide (show dif1 gs L = none from NoD.all (by rw [HLN.out]; exact HND.out))
          have HS := hide (wy_nil (((hS.nilRow0 3 1).nilRow0 3 1).nilRow0 26 1))
          clear hS HND
          go_wp2_with fail
          go_loopw [13, 14, 15, 18, 19, 20, 21] (fun s13 s14 s15 s18 _ _ _ wx => ∃ (q : Nat) (U : List Wy) (m : Nat) (B1 : Option Addr) (d1 : Nat) (B2 : Option Addr) (d2 : Nat) (B3 : Option Addr) (d3 : Nat), q ≤ i ∧ s18 = .int .i64 (q : Int) ∧ s13 = .slice B1 m d1 ∧ s14 = .slice B2 m d2 ∧ s15 = .slice B3 m d3 ∧ Hid (U.length = m) ∧ Hid (U.map Prod.fst = (expK gs L seen q 0).2) ∧
            Sep No w wx (wyI U :: wyO B3 m d3 U :: asI B1 m d1 U :: bsI B2 m d2 U :: shL w.heap.size (w.heap.size + 1) N #[.slice (some ado) nO cO, .slice AR nR cR] nO i (some ad1) c1 (some ad2) c2 (some ad3) c3 T (expK gs L seen q 0).1)) (fun _ _ _ s _ _ _ _ => i - (intOf s).toNat)
          case atStart => exact ⟨0, [], 0, none, 0, none, 0, none, 0, by omega, rfl, rfl, rfl, rfl, rfl, hide (by rw [expK_nil]; rfl), by rw [expK_nil]; exact HS.out⟩
          case round =>
            clear HS
            obtain ⟨q, U, m, B1, d1, B2, d2, B3, d3, hq, rfl, rfl, rfl, rfl, HUL, HUE, hS⟩ := hrel
            by_cases hlt : q < i
            · have hiL : q < L.length := by rw [HLN.out]; exact hlt
              obtain ⟨t, ht⟩ : ∃ t, T[q]? = some t := ⟨T[q]'(by rw [HTL.out]; exact hlt), List.getElem?_eq_getElem _⟩
              have hgd := HLT.out q t ht
              have hrg := (HBI.out.sb (L.getD q pw0) (by rw [getD_at hiL]; exact List.getElem_mem hiL))
              rw [hgd] at hrg
              obtain ⟨⟨⟨p1, p2⟩, u⟩, ⟨Aw, cw⟩⟩ := t
              dsimp only at hgd hrg
              obtain ⟨⟨hp1, hp2⟩, hul⟩ := hrg
              have HT := hide ht
              have HGD := hide hgd
              have HIL := hide hiL
              have HS := hide hS
              clear hS ht hgd hiL
              go_wp2_with fail
              go_loopw [13, 14, 15, 19, 20, 21] (fun s13 s14 s15 s19 _ _ wx => ∃ (k : Nat) (U : List Wy) (m : Nat) (B1 : Option Addr) (d1 : Nat) (B2 : Option Addr) (d2 : Nat) (B3 : Option Addr) (d3 : Nat), k ≤ 4 ∧ s19 = .int .i64 (k : Int) ∧ s13 = .slice B1 m d1 ∧ s14 = .slice B2 m d2 ∧ s15 = .slice B3 m d3 ∧ Hid (U.length = m) ∧ Hid (U.map Prod.fst = (expK gs L seen q k).2) ∧
                Sep No w wx (wyI U :: wyO B3 m d3 U :: asI B1 m d1 U :: bsI B2 m d2 U :: shL w.heap.size (w.heap.size + 1) N #[.slice (some ado) nO cO, .slice AR nR cR] nO i (some ad1) c1 (some ad2) c2 (some ad3) c3 T (expK gs L seen q k).1)) (fun _ _ _ s _ _ _ => 4 - (intOf s).toNat)
              case atStart => exact ⟨0, U, m, B1, d1, B2, d2, B3, d3, by omega, rfl, rfl, rfl, rfl, HUL, HUE, HS.out⟩
              case round =>
                clear HS HUE HUL
                obtain ⟨k, U, m, B1, d1, B2, d2, B3, d3, hk, rfl, rfl, rfl, rfl, HUL, HUE, hS⟩ := hrel
                by_cases hk4 : k < 4
                · obtain ⟨g1, g2, g3, g4⟩ := hS.rules 8 (g := w.heap.size) (t := 25) rfl
                  have g5 := (g1 0).trans (show _ = some (.slice (some ado) nO cO) from rfl)
                  have g6 := (g1 1).trans (show _ = some (.slice AR nR cR) from rfl)
                  obtain ⟨x1, x2⟩ := as_cell (hS.get 6 rfl) hlt HT.out
                  obtain ⟨y1, y2⟩ := bs_cell (hS.get 7 rfl) hlt HT.out
                  dsimp only at x1 y1
                  have C := hide (ronward_any wr.drew (some ado) AR nO cO nR cR obs (HOO.out.below hS.drew.below_) HOK.out.fl p1 p2 hp1 hp2 hnO k)
                  rw [HGS.out] at C
                  have hst := expK_succ gs L seen q k
                  rw [HGD.out] at hst
                  have hmb : m ≤ 576 := by
                    have h1 := (HBI.out.exok HREF.out q k (.inl HIL.out)).len hnO
                    rw [← HUE.out, List.length_map, HUL.out] at h1
                    exact h1.2
                  have HX := hide (HBI.out.exok HREF.out q k (.inl HIL.out))
                  obtain ⟨s, hs⟩ : ∃ s, expK gs L seen q k = s := ⟨_, rfl⟩
                  rw [hs] at hst HUE hS HX
                  have t1 : decide ((k : Int) < 4) = true := by simp; omega
                  have t2 : decide (k < 4) = true := by simp; omega
                  have hi0 : (0 : Int) ≤ (q : Int) := by omega
                  have hi1 : (q : Int) < (i : Int) := by omega
                  unfold exK at hst
                  dsimp only at hst
                  have HS := hide hS
                  clear hS hs g1 g4
                  cases ho : onwO gs (p1, p2) k with
                  | none =>
                    rw [ho] at hst C
                    dsimp only at hst
                    dsimp only [Option.isSome] at C
                    have HST := hide hst
                    clear hst ho
                    go_wp2_with fail
                    go_still_tail 10, hmx
                    go_wp2_with fail
                    refine C.out.mono ?_
                    rintro e w5 ⟨rfl, hb5⟩
                    have HS5 := hide (HS.out.drew.below hb5)
                    clear hb5 C HS
                    go_wp2_with fail
                    go_roundw
                    case rel => exact ⟨k + 1, U, m, B1, d1, B2, d2, B3, d3, by omega, by go_num, rfl, rfl, rfl, HUL, hide (by rw [HST.out]; exact HUE.out), by rw [HST.out]; exact HS5.out⟩
                    case measure => simp [intOf]; omega
                  | some z =>
                    obtain ⟨z1, z2⟩ := z
                    obtain ⟨fz1, fz2⟩ := onwO_some HREF.out ho
                    obtain ⟨hz1, hz2⟩ := onwO_rng HREF.out ho
                    rw [ho] at hst C
                    dsimp only at hst fz1 fz2 hz1 hz2
                    dsimp only [Option.isSome] at C
                    go_wp2_with fail
                    go_still_tail 10, hmx
                    go_wp2_with fail
                    refine C.out.mono ?_
                    rintro e w5 ⟨rfl, hb5⟩
                    have hS5 := HS.out.drew.below hb5
                    obtain ⟨ad', o1, _, hA, _, had, hc1, hr1, hg1, hn1, hl1⟩ := ob_at (HOO.out.below hS5.below_) HOK.out.fl hp1
                    obtain rfl : ado = ad' := by injection hA
                    obtain ⟨ad', o2, _, hA', _, _, hc2, hr2, hg2, hn2, hl2⟩ := ob_at (HOO.out.below hS5.below_) HOK.out.fl hp2
                    obtain rfl : ado = ad' := by injection hA'
                    unfold fldO at fz1 fz2
                    rw [← HGS.out, hg1] at fz1
                    rw [← HGS.out, hg2] at fz2
                    obtain ⟨A1', n1, cc1, fs1⟩ := o1
                    obtain ⟨A2', n2, cc2, fs2⟩ := o2
                    dsimp only at hc1 hc2 hr1 hr2 hn1 hn2 hl1 hl2 fz1 fz2
                    obtain ⟨hk1, hf1⟩ := List.getElem?_eq_some_iff.1 fz1
                    obtain ⟨hk2, hf2⟩ := List.getElem?_eq_some_iff.1 fz2
                    obtain ⟨af, hAf, _, _, e1, d1'⟩ := hr1.atN (k := k) (by omega)
                    obtain ⟨ag, hAg, _, _, e2, d2'⟩ := hr2.atN (k := k) (by omega)
                    obtain ⟨v01, v1⟩ := vals_at fs1 k hk1
                    obtain ⟨v02, v2⟩ := vals_at fs2 k hk2
                    rw [hf1] at v1
                    rw [hf2] at v2
                    have e4 := d1' 0 _ v1
                    have e6 := d2' 0 _ v2
                    dsimp only at e4 e6
                    subst hAf hAg
                    obtain ⟨g1, g2, g3, g4⟩ := hS5.rules 8 (g := w.heap.size) (t := 25) rfl
                    have g7 := (g1 0).trans (show _ = some (.slice (some ado) nO cO) from rfl)
                    obtain ⟨x3, x4⟩ := as_cell (hS5.get 6 rfl) hlt HT.out
                    obtain ⟨y3, y4⟩ := bs_cell (hS5.get 7 rfl) hlt HT.out
                    dsimp only at x3 y3
                    obtain ⟨r, hr⟩ : ∃ r, z1 * nO = r := ⟨_, rfl⟩
                    have hri : ((z1 : Int) * (nO : Int)) = (r : Int) := by rw [← hr]; simp
                    have hrN : r + nO ≤ N := by rw [← hr, ← HN.out, ← Nat.succ_mul]; exact Nat.mul_le_mul_right _ hz1
                    have hsg := seenB_get s.1 hz1 hz2
                    have hss := seenB_set s.1 hz1 hz2
                    rw [hr] at hsg hss
                    obtain ⟨f1, f2⟩ := bls_cellAt (hS5.get 9 rfl) (r + z2) (by omega)
                    rw [hsg] at f1
                    have hk1' : k < n1 := by omega
                    have hk2' : k < n2 := by omega
                    have HS5 := hide hS5
                    have hSg5 := hS5.hi 9 rfl (w.heap.size + 1) rfl
                    clear v01 v02 hS5 hb5 C HS hA hA' hr1 hr2 hg1 hg2 hl1 hl2 fz1 fz2 hf1 hf2 hk1 hk2 e1 e2 d1' d2' v1 v2 g1 g4 g5 g6 x1 x2 y1 y2 hr hsg ho
                    by_cases hm : (z1, z2) ∈ s.1
                    · rw [if_pos hm] at hst
                      have HST := hide hst
                      rw [decide_eq_true hm] at f1
                      clear hst hm hss
                      go_wp2_with fail
                      go_quiet (fail)
                      go_wp2_with fail
                      go_quiet (fail)
                      go_wp2_with fail
                      go_roundw
                      case rel => exact ⟨k + 1, U, m, B1, d1, B2, d2, B3, d3, by omega, by go_num, rfl, rfl, rfl, HUL, hide (by rw [HST.out]; exact HUE.out), by rw [HST.out]; exact HS5.out.drewN _⟩
                      case measure => simp [intOf]; omega
                    · rw [if_neg hm] at hst
                      have HST := hide hst
                      rw [decide_eq_false hm] at f1
                      have HS6 := hide (show ∀ Nq, Sep No w ((w5.drewN Nq).setCell ⟨w.heap.size + 1, r + z2, none⟩ (.bool true)) (wyI U :: wyO B3 m d3 U :: asI B1 m d1 U :: bsI B2 m d2 U :: shL w.heap.size (w.heap.size + 1) N #[.slice (some ado) nO cO, .slice AR nR cR] nO i (some ad1) c1 (some ad2) c2 (some ad3) c3 T (s.1 ++ [(z1, z2)])) from fun Nq => by
                        have h := (HS5.out.drewN Nq).store 9 (g := w.heap.size + 1) rfl (r + z2) (.bool true)
                        rw [bls_set, hss] at h
                        exact h)
                      clear hst hm hss HS5
                      go_wp2_with fail
                      go_quiet (fail)
                      go_wp2_with fail
                      go_quiet (fail)
                      go_wp2_with (first
                        | (at_builtin
                           refine wpList_app1 (cs := #[.int .i64 (z1 : Int)]) rfl (.tmp 128) (.tmp 130) 26 rfl sInt (HS6.out _) 2 (n := m) rfl rfl rfl (by simp) rfl rfl (by omega) ?_
                           intro A7 c7 w7 hS7 hC7
                           (have HS7 := hide hS7)
                           clear hS7 hC7 f1 f2)
                        | (at_builtin
                           refine wpList_app1 (cs := #[.int .i64 (z2 : Int)]) rfl (.tmp 132) (.tmp 134) 26 rfl sInt HS7.out 3 (n := m) rfl rfl rfl (by simp) rfl rfl (by omega) ?_
                           intro A8 c8 w8 hS8 hC8
                           obtain ⟨j1, j2⟩ := wo_cell (hS8.get 5 rfl) hlt HT.out
                           dsimp only at j1
                           (have C5 := hide (rmore_any w8 _ Aw u.length cw u (by omega) (wy_rd (hS8.get 4 rfl) (List.mem_of_getElem? HT.out)) k))
                           (have HS8 := hide hS8)
                           clear hS8 hC8))
                      refine C5.out.mono ?_
                      rintro e w9 ⟨A9, c9, rfl, hS9⟩
                      have HS9 := hide (HS8.out.call0 hS9)
                      clear hS9 C5 HS8 HS7 HS6
                      go_wp2_with (at_builtin
                                   refine wpList_app1 (cs := #[.slice A9 (u.length + 1) c9]) rfl (.tmp 136) (.tmp 143) 54 rfl sWy HS9.out 2 (n := m) rfl rfl rfl (by simp) rfl rfl (by omega) ?_
                                   intro A10 c10 w10 hS10 hC10
                                   (have HS10 := hide hS10)
                                   clear hS10 hC10 HS9)
                      obtain ⟨nw, hnw⟩ : ∃ nw : Wy, ((((z1, z2), u ++ [k]), (A9, c9)) : Wy) = nw := ⟨_, rfl⟩
                      have HF := hide (show Sep No w w10 (wyI (U ++ [nw]) :: wyO A10 (m + 1) c10 (U ++ [nw]) :: asI A7 (m + 1) c7 (U ++ [nw]) :: bsI A8 (m + 1) c8 (U ++ [nw]) :: shL w.heap.size (w.heap.size + 1) N #[.slice (some ado) nO cO, .slice AR nR cR] nO i (some ad1) c1 (some ad2) c2 (some ad3) c3 T (s.1 ++ [(z1, z2)])) from by
                        rw [wo_snoc, as_snoc, bs_snoc]
                        subst hnw
                        have h := wy_join (q := (z1, z2)) (u := u ++ [k]) (by simp) HS10.out
                        dsimp only
                        rw [List.length_append]
                        exact h)
                      have HUE2 := hide (show (U ++ [nw]).map Prod.fst = (expK gs L seen q (k + 1)).2 from by rw [HST.out, List.map_append, HUE.out, ← hnw]; rfl)
                      have HUL2 := hide (show (U ++ [nw]).length = m + 1 from by rw [List.length_append, HUL.out]; rfl)
                      clear HS10 hnw HUE HUL
                      go_wp2_with fail
                      go_roundw
                      case rel => exact ⟨k + 1, U ++ [nw], m + 1, A7, c7, A8, c8, A10, c10, by omega, by go_num, rfl, rfl, rfl, HUL2, HUE2, by rw [HST.out]; exact HF.out⟩
                      case measure => simp [intOf]; omega
                · obtain rfl : k = 4 := by omega
                  rw [expK_four HIL.out] at HUE hS
                  have HS := hide hS
                  clear hS
                  go_wp2_with fail
                  go_roundw
                  case rel => exact ⟨q + 1, U, m, B1, d1, B2, d2, B3, d3, by omega, by go_num, rfl, rfl, rfl, HUL, HUE, HS.out⟩
                  case measure => simp [intOf]; omega
            · obtain rfl : q = i := by omega
              have hBN := HBI.out.next HREF.out hnO HL0.out HDN.out
              rw [HLN.out, ← HUE.out] at hBN
              have HBN := hide hBN
              have HS := hide (hS.sub (l := shL w.heap.size (w.heap.size + 1) N #[.slice (some ado) nO cO, .slice AR nR cR] nO m B1 d1 B2 d2 B3 d3 U (expK gs L seen q 0).1) (by
                unfold shL
                exact .cons_cons _ (.cons_cons _ (.cons_cons _ (.cons_cons _ (.cons _ (.cons _ (.cons _ (.cons _ (List.Sublist.refl _))))))))))
              clear hS hBN
              go_wp2_with fail
              go_roundg f
              case measure => omega
              case rel => exact ⟨U, (expK gs L seen q 0).1, m, B1, d1, B2, d2, B3, d3, rfl, rfl, rfl, HUL, HBN, HS.out⟩
end Go.Proofs.Ytikaaekhghcodaa
