/- arena: the reference's Starts and Fields. arena: the reference's Fields and ArenaCheck. arena: the reference's ArenaCheck. -/
import Derived.Test.YtpbafmdebflbpaaMg5
namespace Go.Proofs.Ytpbafmdebflbpaa
open Go.RowKit Go.Maps

def placesOf (l : List (Nat × Nat)) : List Int := l.map fun p => (p.1 : Int)
theorem placesOf_snoc (l : List (Nat × Nat)) (p : Nat × Nat) : placesOf (l ++ [p]) = placesOf l ++ [(p.1 : Int)] := by simp [placesOf]
theorem ints_snoc2 (l : List Int) (x : Int) : ints (l ++ [x]) = ints l ++ [.int .i64 x] := by simp [ints]
def startsOf (nW : Nat) (ws : List Int) : List Int := if (parse nW ws 0).2 = true then placesOf (parse nW ws 0).1 else []

set_option maxRecDepth 100000 in
set_option maxHeartbeats 4000000 in
theorem refStarts_any (w : World) (Aw : Option Addr) (nw cw : Nat) (ws : List Int) (hW : WsIn w Aw nw cw ws) (hn : nw ≤ 256) :
    Calls Try.prog 40 #[.slice Aw nw cw] w fun e w' => ∃ (A : Option Addr) (n c : Nat),
      e = .returned (.tuple #[.slice A n c, .bool (parse nw ws 0).2]) ∧ n ≤ 256 ∧ Sep No w w' [rowI 3 1 A n c (ints (startsOf nw ws))] := by
  have HWL := hide hW.len
  have hws := hW.wf
  have hw0 := hW.rd
  have HS0 := hide ((Sep.nil No w).nilRow 3 1)
  clear hW
  go_enter Try.func40, Try.ntmps40
  go_wp2_with fail
  go_loopw [4, 5] (fun s4 i wr => ∃ (at_ f m : Nat) (pre : List (Nat × Nat)) (A : Option Addr) (c : Nat), at_ ≤ nw ∧ i = .int .i64 at_ ∧ s4 = .slice A m c ∧ Hid (parse nw ws 0 = (pre ++ (parse f ws at_).1, (parse f ws at_).2)) ∧ nw ≤ f + at_ ∧ m ≤ at_ ∧
    Sep No w wr [rowI 3 1 A m c (ints (placesOf pre))]) (fun _ i _ => nw - (intOf i).toNat)
  case atStart => exact ⟨0, nw, 0, [], none, 0, by omega, rfl, rfl, by simp [Hid], by omega, by omega, by simpa [placesOf] using HS0.out⟩
  case round =>
    clear HS0
    obtain ⟨at_, f, m, pre, A, c, hat, rfl, rfl, HP, hf, hml, hS⟩ := hrel
    by_cases hlt : at_ < nw
    · have hkl : at_ < ws.length := by rw [HWL.out]; exact hlt
      obtain ⟨ad, hA, _, had, hc⟩ := (hw0.below hS.below_).at_ hlt
      have e0 := hc (.int .u64 ws[at_]) (by simp [u64s, List.getElem?_eq_getElem hkl])
      have hb := hws _ (List.getElem_mem hkl)
      have hgd : ws.getD at_ 0 = ws[at_] := by rw [List.getD_eq_getElem?_getD, List.getElem?_eq_getElem hkl]; rfl
      have HGD := hide hgd
      obtain ⟨x, hx⟩ : ∃ x, ws[at_] = x := ⟨_, rfl⟩
      rw [hx] at e0 hb HGD
      obtain ⟨b1, b2⟩ := hb
      subst hA
      clear hc hx hgd
      by_cases hok : unheadOK x
      · obtain ⟨len, hlen⟩ := Int.eq_ofNat_of_zero_le (show 0 ≤ hLen x by unfold hLen; omega)
        have hl4 : len ≤ 4 := by have := hok.1; omega
        have HLEN := hide hlen
        have C := fun w' => unheadR_ok w' x b1 b2 hok
        rw [hlen] at C
        have C1 := hide C
        have HOK := hide hok
        clear C hlen hok
        go_wp2_with fail
        refine (C1.out _).mono ?_
        rintro e w1 ⟨rfl, hb1⟩
        have hS1 := (hS.below hb1).blkAt 23 #[.int .i64 len, .bool (hMark x), .int .i64 (hAge x)] rfl
        by_cases hl : at_ + 1 + len ≤ nw
        · have k1 : decide ((nw : Int) < at_ + 1 + len) = false := by simp; omega
          obtain ⟨f', hf', hps⟩ := parse_some (f := f) (len := len) hkl (by rw [HWL.out]; omega) (by rw [HGD.out]; exact HOK.out) (by rw [HGD.out]; exact HLEN.out) (by rw [HWL.out]; exact hl)
          have HPS := hide (show parse nw ws 0 = ((pre ++ [(at_, len)]) ++ (parse f' ws (at_ + 1 + len)).1, (parse f' ws (at_ + 1 + len)).2) by rw [HP.out, hps]; simp)
          have HF := hide hf'
          clear hS hps hf'
          go_wp2_with (first
            | (at_builtin
               refine wpList_app1 (cs := #[.int .i64 at_]) rfl (.tmp 32) (.tmp 34) 40 rfl sInt hS1 0 (n := m) rfl rfl rfl (by simp) rfl rfl (by omega) ?_
               intro A4 c4 w4 hS4 hC4
               (have q5 : w4.cell? ⟨w1.heap.size, 0, none⟩ = some (.int .i64 len) := by
                  obtain ⟨q1, _⟩ := hS4.rules 1 (g := w1.heap.size) (t := 23) rfl
                  rw [q1]; rfl)))
          have hS5 := hS4.sub (l := [rowI 3 1 A4 (m + 1) c4 (ints (placesOf pre) ++ [.int .i64 at_])]) (by simp)
          go_roundw
          case rel =>
            refine ⟨at_ + 1 + len, f', m + 1, pre ++ [(at_, len)], A4, c4, by omega, by go_num, rfl, HPS.out, ?_, by omega, ?_⟩
            · have h9 := HF.out; rw [HWL.out] at h9; exact h9
            · rw [placesOf_snoc, ints_snoc2]; exact hS5
          case measure => simp [intOf]; omega
        · have k1 : decide ((nw : Int) < at_ + 1 + len) = true := by simp; omega
          have hpn := parse_none (f := f) hkl (by rw [HWL.out]; omega) (by rw [HGD.out, HLEN.out, HWL.out]; omega)
          have HR := hide (show (parse nw ws 0).2 = false by rw [HP.out, hpn])
          have hS2 := ((hS1.sub (l := []) (by simp))).nilRow 3 1
          clear hS hpn
          go_wp2_with fail
          refine bodyPost_ret (v := .tuple #[.slice none 0 0, .bool false]) (by simp [results, Try.results40, go_sem]) rfl ⟨none, 0, 0, by rw [HR.out], by omega, ?_⟩
          rw [show startsOf nw ws = [] from if_neg (by rw [HR.out]; simp)]
          exact hS2
      · have C1 := hide (fun w' => unheadR_bad w' x b1 b2 hok)
        have hpn := parse_none (f := f) hkl (by rw [HWL.out]; omega) (by rw [HGD.out]; exact fun h => hok h.1)
        have HR := hide (show (parse nw ws 0).2 = false by rw [HP.out, hpn])
        clear hok hpn
        go_wp2_with fail
        refine (C1.out _).mono ?_
        rintro e w1 ⟨rfl, hb1⟩
        have hS1 := (hS.below hb1)
        go_wp2_with fail
        refine bodyPost_ret (v := .tuple #[.slice none 0 0, .bool false]) (by simp [results, Try.results40, go_sem]) rfl ⟨none, 0, 0, by rw [HR.out], by omega, ?_⟩
        rw [show startsOf nw ws = [] from if_neg (by rw [HR.out]; simp)]
        exact ((hS1.alloc _).sub (l := []) (by simp)).nilRow 3 1
    · obtain rfl : at_ = nw := by omega
      have hpe : parse f ws at_ = ([], true) := by have := parse_end (f := f) (ws := ws); rw [HWL.out] at this; exact this
      have HR := hide (show parse at_ ws 0 = (pre, true) by rw [HP.out, hpe]; simp)
      clear hpe
      go_wp2_with fail
      refine bodyPost_ret (v := .tuple #[.slice A m c, .bool true]) (by simp [results, Try.results40, go_sem]) rfl ⟨A, m, c, by rw [HR.out], by omega, ?_⟩
      rw [show startsOf at_ ws = placesOf pre from by unfold startsOf; rw [HR.out]; rfl]
      exact hS
end Go.Proofs.Ytpbafmdebflbpaa

namespace Go.Proofs.Ytpbafmdebflbpaa
open Go.RowKit Go.Maps

theorem parse_mem (f : Nat) : ∀ (ws : List Int) (a : Nat) (p : Nat × Nat), (∀ x ∈ ws, 0 ≤ x) → p ∈ (parse f ws a).1 → p.1 < ws.length ∧ unheadOK (ws.getD p.1 0) ∧ hLen (ws.getD p.1 0) = (p.2 : Int) ∧ p.1 + 1 + p.2 ≤ ws.length := by
  induction f with
  | zero => intro ws a p _ h; simp [parse] at h
  | succ f ih =>
    intro ws a p hw h
    unfold parse at h
    split at h
    · rename_i h1
      split at h
      · rename_i h2
        rcases List.mem_cons.1 h with rfl | h3
        · have h0 : 0 ≤ hLen (ws.getD a 0) := by unfold hLen; omega
          dsimp only
          exact ⟨h1, h2.1, by omega, by have := h2.2; omega⟩
        · exact ih ws _ p hw h3
      · simp at h
    · simp at h

set_option maxRecDepth 100000 in
set_option maxHeartbeats 4000000 in
theorem refFields_any (w : World) (Aw : Option Addr) (nw cw at_ len : Nat) (ws : List Int) (hW : WsIn w Aw nw cw ws) (hn : nw ≤ 256) (hok : unheadOK (ws.getD at_ 0)) (hlen : hLen (ws.getD at_ 0) = (len : Int)) (hl : at_ + 1 + len ≤ nw) :
    Calls Try.prog 66 #[.slice Aw nw cw, .int .i64 at_] w fun e w' => ∃ (A : Option Addr) (c : Nat),
      e = .returned (.slice A len c) ∧ Sep No w w' [rowI 24 1 A len c (u64s ((ws.drop (at_ + 1)).take len))] := by
  have HWL := hide hW.len
  have hws := hW.wf
  have hw0 := hW.rd
  have hlt : at_ < nw := by omega
  have hkl : at_ < ws.length := by rw [HWL.out]; exact hlt
  obtain ⟨ad, hA, _, had, hc⟩ := hw0.at_ hlt
  have e0 := hc (.int .u64 ws[at_]) (by simp [u64s, List.getElem?_eq_getElem hkl])
  have hb := hws _ (List.getElem_mem hkl)
  have hgd : ws.getD at_ 0 = ws[at_] := by rw [List.getD_eq_getElem?_getD, List.getElem?_eq_getElem hkl]; rfl
  obtain ⟨x, hx⟩ : ∃ x, ws[at_] = x := ⟨_, rfl⟩
  rw [hgd, hx] at hok hlen
  rw [hx] at e0 hb
  obtain ⟨b1, b2⟩ := hb
  subst hA
  have C := fun w' => unheadR_ok w' x b1 b2 hok
  rw [hlen] at C
  have C1 := hide C
  have hl4 : len ≤ 4 := by have := hok.1; omega
  clear C hlen hok hc hgd hx
  go_enter Try.func66, Try.ntmps66
  go_wp2_with fail
  refine (C1.out _).mono ?_
  rintro e w1 ⟨rfl, hb1⟩
  have hS1 := (((Sep.nil No w).below hb1).blkAt 23 #[.int .i64 len, .bool (hMark x), .int .i64 (hAge x)] rfl).nilRow0 24 1
  have HS1 := hide hS1
  clear hS1
  go_wp2_with fail
  go_loopw [7, 8] (fun s7 i wr => ∃ (k : Nat) (A : Option Addr) (c : Nat), k ≤ len ∧ i = .int .i64 ((k + 1 : Nat) : Int) ∧ s7 = .slice A k c ∧ Sep No w wr [rowI 24 1 A k c (u64s ((ws.drop (at_ + 1)).take k)), blkI w1.heap.size 23 #[.int .i64 len, .bool (hMark x), .int .i64 (hAge x)]]) (fun _ i _ => len + 1 - (intOf i).toNat)
  case atStart => exact ⟨0, none, 0, by omega, rfl, rfl, by simpa [u64s] using HS1.out⟩
  case round =>
    clear HS1
    obtain ⟨k, A, c, hk, rfl, rfl, hS⟩ := hrel
    obtain ⟨q1, q2, q3, q4⟩ := hS.rules 1 (g := w1.heap.size) (t := 23) rfl
    have q5 : wr.cell? ⟨w1.heap.size, 0, none⟩ = some (.int .i64 len) := by rw [q1]; rfl
    clear q1
    by_cases hlk : k < len
    · obtain ⟨j, hj⟩ : ∃ j, j = at_ + (k + 1) := ⟨_, rfl⟩
      have hjl : j < ws.length := by rw [HWL.out]; omega
      have hjn : j < nw := by omega
      obtain ⟨ad2, hA2, _, had2, hc2⟩ := (hw0.below hS.below_).at_ hjn
      injection hA2 with hA2
      subst hA2
      have e1 := hc2 (.int .u64 ws[j]) (by simp [u64s, List.getElem?_eq_getElem hjl])
      have HT := hide (show (ws.drop (at_ + 1)).take (k + 1) = (ws.drop (at_ + 1)).take k ++ [ws[j]] from by
        rw [List.take_succ_eq_append_getElem (by rw [List.length_drop]; omega), List.getElem_drop]
        congr 3
        omega)
      obtain ⟨y, hy⟩ : ∃ y, ws[j] = y := ⟨_, rfl⟩
      rw [hy] at e1 HT
      have e1' : wr.cell? (ad.add (at_ + (k + 1))) = some (.int .u64 y) := by rw [← hj]; exact e1
      have hjn' : at_ + (k + 1) < nw := by omega
      clear e1 hjn
      clear hc2 hy hjl hj
      go_wp2_with (first
        | (at_builtin
           refine wpList_app1 (cs := #[.int .u64 y]) rfl (.tmp 23) (.tmp 30) 53 rfl sWord hS 0 (n := k) rfl rfl rfl (by simp) rfl rfl (by omega) ?_
           intro A4 c4 w4 hS4 hC4))
      go_roundw
      case rel => exact ⟨k + 1, A4, c4, by omega, by go_num, rfl, by rw [HT.out, u64s_snoc]; exact hS4⟩
      case measure => simp [intOf]; omega
    · obtain rfl : k = len := by omega
      have hS' := hS.sub (l := [rowI 24 1 A k c (u64s ((ws.drop (at_ + 1)).take k))]) (by simp)
      go_wp2_with fail
      go_ret
      exact ⟨A, c, rfl, hS'⟩
end Go.Proofs.Ytpbafmdebflbpaa

namespace Go.Proofs.Ytpbafmdebflbpaa
open Go.RowKit Go.Maps

theorem placesOf_mem (l : List (Nat × Nat)) (y : Int) : decide (y ∈ placesOf l) = l.any fun p => (p.1 : Int) == y := by
  rw [Bool.eq_iff_iff]
  simp only [decide_eq_true_eq, placesOf, List.mem_map, List.any_eq_true, beq_iff_eq]

set_option maxRecDepth 100000 in
set_option maxHeartbeats 16000000 in
theorem refAcheck_in (w : World) (AW AR : Option Addr) (nW cW nR cR : Nat) (ws rs : List Int) (hW : WsIn w AW nW cW ws) (hR : WsIn w AR nR cR rs) (h1 : nW ≤ 256) (h2 : nR ≤ 8) :
    Calls Try.prog 32 #[.agg #[.slice AW nW cW, .slice AR nR cR]] w fun e w' => e = .returned (.int .i64 (acheck nW nR ws rs)) ∧ Below w.heap.size w w' := by
  have hS0 := (Sep.nil No w).blkAt 55 #[.slice AW nW cW, .slice AR nR cR] rfl
  have C1 := hide (refStarts_any _ AW nW cW ws (hW.below hS0.below_) h1)
  have HS0 := hide hS0
  have hacc : ¬ (256 < nW ∨ 8 < nR) := by omega
  clear hS0
  go_enter Try.func32, Try.ntmps32
  go_wp2_with fail
  cases hok : (parse nW ws 0).2 with
  | false =>
    rw [hok] at C1
    have HR := hide (show acheck nW nR ws rs = 4 from (if_neg hacc).trans (if_pos hok))
    clear hok hacc
    refine C1.out.mono ?_
    rintro e w1 ⟨A, n, c, rfl, hn, hS⟩
    have hB := HS0.out.below hS.below_
    go_wp2_with fail
    go_ret
    exact ⟨by rw [HR.out] <;> rfl, hB.below_⟩
  | true =>
    rw [hok] at C1
    obtain ⟨P, hP⟩ : ∃ P, (parse nW ws 0).1 = P := ⟨_, rfl⟩
    have hso : startsOf nW ws = placesOf P := by unfold startsOf; rw [if_pos hok, hP]
    have HR := hide (show acheck nW nR ws rs = (if (rs ++ fieldsOf ws P).any (badWord P) = true then 2 else 0) from by
      rw [← hP]; exact (if_neg hacc).trans (if_neg (by rw [hok]; simp)))
    have HPM := hide (show ∀ p ∈ P, p.1 < ws.length ∧ unheadOK (ws.getD p.1 0) ∧ hLen (ws.getD p.1 0) = (p.2 : Int) ∧ p.1 + 1 + p.2 ≤ ws.length from fun p hp => parse_mem nW ws 0 p (fun x hx => (hW.wf x hx).1) (by rw [hP]; exact hp))
    clear hok hacc hP
    refine C1.out.mono ?_
    rintro e w1 ⟨A, n, c, rfl, hn, hS⟩
    rw [hso] at hS
    have hS1 := HS0.out.snocNew hS.below_ _ (hS.get 0 rfl) (fun g hg => (hS.lo 0 rfl g hg).resolve_left (fun h => h))
    have HPL := hide (show P.length = n by have := (hS.rd_ 0 rfl).1; simpa [placesOf] using this)
    obtain ⟨a1, a2, a3, a4⟩ := hS1.rules 0 (g := w.heap.size) (t := 55) rfl
    have HS1 := hide (hS1.nilRow0 24 1)
    have HRL := hide hR.len
    have HWL := hide hW.len
    clear hso HS0 C1 hS hS1
    go_wp2_with fail
    clear a1 a2 a3 a4
    go_loopw [5, 37] (fun s5 i wr => ∃ (k : Nat) (Al : Option Addr) (cl : Nat), k ≤ nR ∧ i = .int .i64 k ∧ s5 = .slice Al k cl ∧ Sep No w wr [rowI 24 1 Al k cl (u64s (rs.take k)), blkI w.heap.size 55 #[.slice AW nW cW, .slice AR nR cR], rowI 3 1 A n c (ints (placesOf P))]) (fun _ i _ => nR - (intOf i).toNat)
    case atStart => exact ⟨0, none, 0, by omega, rfl, rfl, by simpa [u64s] using HS1.out⟩
    case round =>
      clear HS1
      obtain ⟨k, Al, cl, hk, rfl, rfl, hS⟩ := hrel
      by_cases hlt : k < nR
      · have hkl : k < rs.length := by rw [HRL.out]; exact hlt
        obtain ⟨ad, hA, _, had, hc⟩ := (hR.rd.below hS.below_).at_ hlt
        have e0 := hc (.int .u64 rs[k]) (by simp [u64s, List.getElem?_eq_getElem hkl])
        have HT := hide (List.take_succ_eq_append_getElem hkl)
        obtain ⟨x, hx⟩ : ∃ x, rs[k] = x := ⟨_, rfl⟩
        rw [hx] at e0 HT
        rw [hA]
        have HA := hide hA
        clear hc hx hA
        go_wp2_with (first
          | (at_builtin
             refine wpList_app1 (cs := #[.int .u64 x]) rfl (.tmp 41) (.tmp 43) 53 rfl sWord hS 0 (n := k) rfl rfl rfl (by simp) rfl rfl (by omega) ?_
             intro A4 c4 w4 hS4 hC4))
        go_roundw
        case rel => exact ⟨k + 1, A4, c4, by omega, by go_num, rfl, by rw [HT.out, u64s_snoc, ← HA.out]; exact hS4⟩
        case measure => simp [intOf]; omega
      · obtain rfl : k = nR := by omega
        rw [show rs.take k = rs from List.take_of_length_le (by rw [HRL.out]; omega)] at hS
        have HS2 := hide hS
        clear hS
        go_wp2_with fail
        go_loopw [5, 48] (fun s5 i w2 => ∃ (j m : Nat) (Al : Option Addr) (cl : Nat), j ≤ n ∧ i = .int .i64 j ∧ s5 = .slice Al m cl ∧ m ≤ 8 + 4 * j ∧ Sep No w w2 [rowI 24 1 Al m cl (u64s (rs ++ fieldsOf ws (P.take j))), blkI w.heap.size 55 #[.slice AW nW cW, .slice AR k cR], rowI 3 1 A n c (ints (placesOf P))]) (fun _ i _ => n - (intOf i).toNat)
        case atStart => exact ⟨0, k, Al, cl, by omega, rfl, rfl, by omega, by simpa [fieldsOf] using HS2.out⟩
        case round =>
          clear HS2
          obtain ⟨j, m, Al, cl, hj, rfl, rfl, hm, hS⟩ := hrel
          by_cases hlj : j < n
          · have hjl : j < P.length := by rw [HPL.out]; exact hlj
            obtain ⟨ad, hA, _, had, hc⟩ := (hS.rd_ 2 rfl).at_ hlj
            have e0 := hc (.int .i64 (P[j].1 : Int)) (by simp [placesOf, List.getElem?_eq_getElem hjl])
            obtain ⟨pm1, pm2, pm3, pm4⟩ := HPM.out _ (List.getElem_mem hjl)
            have HT := hide (List.take_succ_eq_append_getElem hjl)
            obtain ⟨p, hp⟩ : ∃ p, P[j] = p := ⟨_, rfl⟩
            rw [hp] at e0 HT pm1 pm2 pm3 pm4
            obtain ⟨at_, len⟩ := p
            dsimp only at e0 pm1 pm2 pm3 pm4
            rw [HWL.out] at pm1 pm4
            have hl4 : len ≤ 4 := by have := pm2.1; omega
            have C2 := hide (fun w' (hb : Below w.heap.size w w') => refFields_any w' AW nW cW at_ len ws (hW.below hb) h1 pm2 pm3 pm4)
            obtain ⟨a1, a2, a3, a4⟩ := hS.rules 1 (g := w.heap.size) (t := 55) rfl
            rw [hA]
            have HA := hide hA
            clear hc hp hA pm2 pm3
            go_wp2_with fail
            refine (C2.out _ hS.below_).mono ?_
            rintro e w3 ⟨Ap, cp, rfl, hP3⟩
            have hS3 := hS.snocNew hP3.below_ _ (hP3.get 0 rfl) (fun g hg => (hP3.lo 0 rfl g hg).resolve_left (fun h => h))
            have HS3 := hide hS3
            clear a1 a2 a3 a4 hS hS3 hP3 C2 e0 had
            go_wp2_with fail
            go_loopw [5, 57] (fun s5 i w4 => ∃ (q m : Nat) (Al : Option Addr) (cl : Nat), q ≤ len ∧ i = .int .i64 q ∧ s5 = .slice Al m cl ∧ m ≤ 8 + 4 * j + q ∧ Sep No w w4 [rowI 24 1 Al m cl (u64s (rs ++ fieldsOf ws (P.take j) ++ ((ws.drop (at_ + 1)).take len).take q)), blkI w.heap.size 55 #[.slice AW nW cW, .slice AR k cR], rowI 3 1 A n c (ints (placesOf P)), rowI 24 1 Ap len cp (u64s ((ws.drop (at_ + 1)).take len))]) (fun _ i _ => len - (intOf i).toNat)
            case atStart => exact ⟨0, m, Al, cl, by omega, rfl, rfl, by omega, by simpa using HS3.out⟩
            case round =>
              clear HS3 hm
              obtain ⟨q, m, Al, cl, hq, rfl, rfl, hm, hS⟩ := hrel
              have hfl : ((ws.drop (at_ + 1)).take len).length = len := by have := (hS.rd_ 3 rfl).1; simpa [u64s] using this
              have HFL := hide hfl
              by_cases hlq : q < len
              · have hql : q < ((ws.drop (at_ + 1)).take len).length := by rw [hfl]; exact hlq
                obtain ⟨ad3, hA3, _, had3, hc3⟩ := (hS.rd_ 3 rfl).at_ hlq
                have e1 := hc3 (.int .u64 ((ws.drop (at_ + 1)).take len)[q]) (by simp only [u64s, List.getElem?_map, List.getElem?_eq_getElem hql, Option.map_some])
                have HT3 := hide (List.take_succ_eq_append_getElem hql)
                obtain ⟨y, hy⟩ : ∃ y, ((ws.drop (at_ + 1)).take len)[q] = y := ⟨_, rfl⟩
                rw [hy] at e1 HT3
                rw [hA3]
                have HA3 := hide hA3
                clear hc3 hy hA3 hfl
                go_wp2_with (first
                  | (at_builtin
                     refine wpList_app1 (cs := #[.int .u64 y]) rfl (.tmp 61) (.tmp 63) 53 rfl sWord hS 0 (n := m) rfl rfl rfl (by simp) rfl rfl (by omega) ?_
                     intro A4 c4 w4 hS4 hC4))
                go_roundw
                case rel => exact ⟨q + 1, m + 1, A4, c4, by omega, by go_num, rfl, by omega, by rw [HT3.out, ← List.append_assoc, u64s_snoc, ← HA3.out]; exact hS4⟩
                case measure => simp [intOf]; omega
              · obtain rfl : q = len := by omega
                rw [show ((ws.drop (at_ + 1)).take q).take q = (ws.drop (at_ + 1)).take q from List.take_of_length_le (by rw [hfl]; omega)] at hS
                have hS' := hS.sub (List.take_sublist 3 _)
                clear hfl
                go_wp2_with fail
                go_roundw
                case rel => exact ⟨j + 1, m, Al, cl, by omega, by go_num, rfl, by omega, by rw [HT.out, fieldsOf_snoc, ← List.append_assoc, ← HA.out]; exact hS'⟩
                case measure => simp [intOf]; omega
          · obtain rfl : j = n := by omega
            rw [show P.take j = P from List.take_of_length_le (by rw [HPL.out]; omega)] at hS
            have hxb : ∀ x ∈ rs ++ fieldsOf ws P, 0 ≤ x ∧ x ≤ 18446744073709551615 := by
              intro x hx
              rcases List.mem_append.1 hx with h | h
              · exact hR.wf x h
              · obtain ⟨p, _, hp⟩ := List.mem_flatMap.1 h
                exact hW.wf x (List.mem_of_mem_drop (List.mem_of_mem_take hp))
            have HXB := hide hxb
            have hxl := u64s_row hS 0 rfl
            obtain ⟨xs, hxs⟩ : ∃ xs, rs ++ fieldsOf ws P = xs := ⟨_, rfl⟩
            rw [hxs] at hS HXB HR hxl
            have HXL := hide hxl
            have HS4 := hide hS
            clear hxb hxl hxs hS hW hR HPM HPL
            go_wp2_with fail
            go_loopw [69] (fun i w5 => ∃ q : Nat, q ≤ m ∧ i = .int .i64 q ∧ Hid ((xs.take q).any (badWord P) = false) ∧ Sep No w w5 [rowI 24 1 Al m cl (u64s xs), blkI w.heap.size 55 #[.slice AW nW cW, .slice AR k cR], rowI 3 1 A j c (ints (placesOf P))]) (fun i _ => m - (intOf i).toNat)
            case atStart => exact ⟨0, by omega, rfl, by simp [Hid], HS4.out⟩
            case round =>
              clear HS4
              obtain ⟨q, hq, rfl, HP, hS⟩ := hrel
              by_cases hlt : q < m
              · have hkl : q < xs.length := by rw [HXL.out]; exact hlt
                obtain ⟨ad, hA', _, had, hc⟩ := (hS.rd_ 0 rfl).at_ hlt
                have e0 := hc (.int .u64 xs[q]) (by simp [u64s, List.getElem?_eq_getElem hkl])
                have hb := HXB.out _ (List.getElem_mem hkl)
                have HT := hide (List.take_succ_eq_append_getElem hkl)
                have HM := hide (List.getElem_mem hkl)
                obtain ⟨x, hx⟩ : ∃ x, xs[q] = x := ⟨_, rfl⟩
                rw [hx] at e0 hb HT HM
                obtain ⟨b1, b2⟩ := hb
                have C := fun w' => unpackR_any w' x b1 b2
                rw [hA']
                have HA := hide hA'
                clear hc hx hA'
                by_cases hE : unE x = 0
                · rw [hE] at C
                  have hnext : badWord P x = false → Hid ((xs.take (q + 1)).any (badWord P) = false) := fun h => by
                    show _ = _
                    rw [HT.out, List.any_append, HP.out]; simp [h]
                  cases hr : unR x with
                  | false =>
                    rw [hr] at C
                    have HN := hnext (by unfold badWord; rw [hE, hr]; rfl)
                    have C1 := hide C
                    clear C hnext hE hr
                    go_wp2_with fail
                    refine (C1.out _).mono ?_
                    rintro e w3 ⟨rfl, hb3⟩
                    have hS2 := (hS.below hb3).alloc (.cells #[.bool false, .int .i64 (unA x)] 32)
                    go_wp2_with fail
                    go_roundw
                    case rel => exact ⟨q + 1, by omega, by go_num, HN, by rw [← HA.out]; exact hS2⟩
                    case measure => simp [intOf]; omega
                  | true =>
                    rw [hr] at C
                    cases ht : P.any (fun p => (p.1 : Int) == unA x) with
                    | true =>
                      have HN := hnext (by unfold badWord; rw [hE, hr, ht]; rfl)
                      have C1 := hide C
                      have HTH := hide ((placesOf_mem P (unA x)).trans ht)
                      clear C hnext hE hr ht
                      go_wp2_with fail
                      refine (C1.out _).mono ?_
                      rintro e w3 ⟨rfl, hb3⟩
                      have hS2 := (hS.below hb3).alloc (.cells #[.bool true, .int .i64 (unA x)] 32)
                      go_wp2_with fail
                      refine (has_any _ _ A j c (placesOf P) (unA x) (by omega) (hS2.rd_ 2 rfl)).mono ?_
                      rw [HTH.out]
                      rintro e w6 ⟨rfl, rfl⟩
                      go_wp2_with fail
                      go_roundw
                      case rel => exact ⟨q + 1, by omega, by go_num, HN, by rw [← HA.out]; exact hS2⟩
                      case measure => simp [intOf]; omega
                    | false =>
                      have HN := hide (show (if xs.any (badWord P) = true then (2 : Int) else 0) = 2 from if_pos (List.any_eq_true.2 ⟨x, HM.out, by unfold badWord; rw [hE, hr, ht]; rfl⟩))
                      have C1 := hide C
                      have HTH := hide ((placesOf_mem P (unA x)).trans ht)
                      clear C hnext hE hr ht
                      go_wp2_with fail
                      refine (C1.out _).mono ?_
                      rintro e w3 ⟨rfl, hb3⟩
                      have hS2 := (hS.below hb3).alloc (.cells #[.bool true, .int .i64 (unA x)] 32)
                      go_wp2_with fail
                      refine (has_any _ _ A j c (placesOf P) (unA x) (by omega) (hS2.rd_ 2 rfl)).mono ?_
                      rw [HTH.out]
                      rintro e w6 ⟨rfl, rfl⟩
                      go_wp2_with fail
                      go_ret
                      exact ⟨by rw [HR.out, HN.out] <;> rfl, hS2.below_⟩
                · have HN := hide (show (if xs.any (badWord P) = true then (2 : Int) else 0) = 2 from if_pos (List.any_eq_true.2 ⟨x, HM.out, by unfold badWord; simp [hE]⟩))
                  have y1 : (unE x != 0) = true := by simp [hE]
                  have C1 := hide C
                  clear C hE
                  go_wp2_with fail
                  refine (C1.out _).mono ?_
                  rintro e w3 ⟨rfl, hb3⟩
                  have hS2 := (hS.below hb3).alloc (.cells #[.bool (unR x), .int .i64 (unA x)] 32)
                  go_wp2_with fail
                  go_ret
                  exact ⟨by rw [HR.out, HN.out] <;> rfl, hS2.below_⟩
              · obtain rfl : q = m := by omega
                have hall : xs.any (badWord P) = false := by
                  have := HP.out
                  rw [List.take_of_length_le (by rw [HXL.out]; omega)] at this
                  exact this
                have HN := hide (show (if xs.any (badWord P) = true then (2 : Int) else 0) = 0 from if_neg (by rw [hall]; simp))
                clear hall
                go_wp2_with fail
                go_ret
                exact ⟨by rw [HR.out, HN.out] <;> rfl, hS.below_⟩

set_option maxHeartbeats 1600000 in
theorem refAcheck_any (w : World) (AW AR : Option Addr) (nW cW nR cR : Nat) (ws rs : List Int) (hW : WsIn w AW nW cW ws) (hR : WsIn w AR nR cR rs) :
    Calls Try.prog 32 #[.agg #[.slice AW nW cW, .slice AR nR cR]] w fun e w' => e = .returned (.int .i64 (acheck nW nR ws rs)) ∧ Below w.heap.size w w' := by
  by_cases h1 : 256 < nW
  · rw [show acheck nW nR ws rs = 1 from if_pos (Or.inl h1)]
    clear hW hR
    go_enter Try.func32, Try.ntmps32
    go_wp2_with fail
    go_ret
    exact ⟨rfl, (by repeat (first | with_reducible exact Below.refl _ _ | with_reducible (refine Below.setCell ?_ (by first | omega | (simp; done) | (simp; omega)) _) | with_reducible (refine Below.alloc ?_ (by first | omega | (simp; done) | (simp; omega)) _) | with_reducible refine Below.drew ?_ | with_reducible refine below_drewN ?_ _))⟩
  by_cases h2 : 8 < nR
  · rw [show acheck nW nR ws rs = 1 from if_pos (Or.inr h2)]
    clear hW hR
    go_enter Try.func32, Try.ntmps32
    go_wp2_with fail
    go_ret
    exact ⟨rfl, (by repeat (first | with_reducible exact Below.refl _ _ | with_reducible (refine Below.setCell ?_ (by first | omega | (simp; done) | (simp; omega)) _) | with_reducible (refine Below.alloc ?_ (by first | omega | (simp; done) | (simp; omega)) _) | with_reducible refine Below.drew ?_ | with_reducible refine below_drewN ?_ _))⟩
  exact refAcheck_in w AW AR nW cW nR cR ws rs hW hR (by omega) (by omega)
end Go.Proofs.Ytpbafmdebflbpaa
