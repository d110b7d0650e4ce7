/- Handles: the reference: which handle is made next. Handles: the reference's answer to a script. Handles: the walk of the law. -/
import Derived.Test.YtkifmnelmmogfaaDoorGHandlePlays2
set_option linter.unusedSimpArgs false
set_option linter.unusedVariables false
namespace Go.Proofs.YtkifmnelmmogfaaDoor
open Go.RowKit

theorem hdCnt_take (hs : List Hnd) (j s : Nat) (h : j < hs.length) : hdCnt (hs.take (j + 1)) s = hdCnt (hs.take j) s + (if hs[j].h % 32 = (s : Int) then 1 else 0) := by
  unfold hdCnt
  rw [List.take_succ_eq_append_getElem h, List.countP_append]
  congr 1
  rw [List.countP_cons, List.countP_nil]
  by_cases h : hs[j].h % 32 = (s : Int) <;> simp [h]
theorem hdFree_take (hs : List Hnd) (j s : Nat) (h : j < hs.length) : hdFree (hs.take (j + 1)) s = (hdFree (hs.take j) s && !(decide (hs[j].h % 32 = (s : Int)) && hs[j].live)) := by
  unfold hdFree
  rw [List.take_succ_eq_append_getElem h, List.all_append]
  simp
theorem find_range_some {n k : Nat} {p : Nat → Bool} (hk : k < n) (hp : p k = true) (h : ∀ j, j < k → p j = false) : (List.range n).find? p = some k := by
  rw [List.find?_range_eq_some]
  exact ⟨hp, by simpa using hk, fun j hj => by simp [h j hj]⟩
theorem find_range_none {n : Nat} {p : Nat → Bool} (h : ∀ j, j < n → p j = false) : (List.range n).find? p = none := by
  rw [List.find?_eq_none]
  intro x hx
  simp [h x (by simpa using hx)]
def frV (n : Nat) (hs : List Hnd) : Int := match hdFresh n hs with | some s => (hdCnt hs s : Int) * 32 + s | none => -1

set_option maxRecDepth 100000 in
set_option maxHeartbeats 8000000 in
theorem fresh_any (w : World) (D1 D2 : Nat → Prop) (A1 A2 : Option Addr) (n m c1 c2 : Nat) (hs : List Hnd) (hn : n ≤ 32) (hm : m ≤ 1000) (h1 : Rd w D1 1 A1 m (ints (hs.map Hnd.h))) (h2 : Rd w D2 1 A2 m (boolV (hs.map Hnd.live))) (h0 : ∀ e ∈ hs, 0 ≤ e.h) :
    Calls Tryd.prog 9 #[.int .i64 n, .slice A1 m c1, .slice A2 m c2] w fun e w' => e = .returned (.int .i64 (frV n hs)) ∧ w' = w := by
  have HL := hide (show hs.length = m by have := h1.1; simpa using this)
  have H0 := hide h0
  clear h0
  go_enter Tryd.func9, Tryd.ntmps9
  go_wp2_with fail
  go_loop [7] (fun s => ∃ k : Nat, k ≤ n ∧ s = .int .i64 k ∧ Hid (∀ j, j < k → (hdFree hs j && decide ((hdCnt hs j : Int) ≤ 3)) = false)) (fun s => n - (intOf s).toNat)
  case atStart => exact ⟨0, by omega, rfl, by simp [Hid]⟩
  case round =>
    obtain ⟨k, hk, rfl, HN⟩ := hrel
    by_cases hlt : k < n
    · go_wp2_with fail
      go_loop [8, 9, 10] (fun v f i => ∃ (j : Nat) (cv : Nat) (fb : Bool), j ≤ m ∧ cv ≤ j ∧ i = .int .i64 j ∧ v = .int .i64 cv ∧ f = .bool fb ∧ Hid (cv = hdCnt (hs.take j) k) ∧ Hid (fb = hdFree (hs.take j) k)) (fun _ _ i => m - (intOf i).toNat)
      case atStart => exact ⟨0, 0, true, by omega, by omega, rfl, rfl, rfl, by simp [Hid, hdCnt], by simp [Hid, hdFree]⟩
      case round =>
        obtain ⟨j, cv, fb, hj, hcj, rfl, rfl, rfl, HC, HF⟩ := hrel
        by_cases hjl : j < m
        · have hjh : j < hs.length := by rw [HL.out]; exact hjl
          obtain ⟨ad1, hA1, _, hb1, hc1⟩ := h1.at_ hjl
          obtain ⟨ad2, hA2, _, hb2, hc2⟩ := h2.at_ hjl
          have e0 := hc1 (.int .i64 hs[j].h) (by simp [List.getElem?_eq_getElem hjh])
          have e1 := hc2 (.bool hs[j].live) (by simp [boolV, List.getElem?_eq_getElem hjh])
          have h00 := H0.out _ (List.getElem_mem hjh)
          have hct := hdCnt_take hs j k hjh
          have hft := hdFree_take hs j k hjh
          obtain ⟨e, he⟩ : ∃ e, hs[j] = e := ⟨_, rfl⟩
          rw [he] at e0 e1 h00 hct hft
          obtain ⟨hh, hv, hl⟩ := e
          dsimp only at e0 e1 h00 hct hft
          obtain ⟨H, rfl⟩ := int_nat h00
          have HCT := hide hct
          have HFT := hide hft
          have hw : IntKind.i64.wrap ((cv : Int) + 1) = ((cv + 1 : Nat) : Int) := by simp only [IntKind.wrap_i64]; omega
          subst hA1 hA2
          clear hc1 hc2 he hct hft h00 hjh
          by_cases hx : (H : Int) % 32 = (k : Int)
          · have y1 : ((H : Int) % 32 == (k : Int)) = true := by simp [hx]
            have y2 : (H % 32 == k) = true := by simp; omega
            have HX := hide hx
            clear hx
            cases hl with
            | true =>
              go_wp2_with fail
              go_round
              case rel => exact ⟨j + 1, cv + 1, false, by omega, by omega, by go_num, by go_num, rfl, by show cv + 1 = _; rw [HCT.out, if_pos HX.out, HC.out], by show false = _; rw [HFT.out]; simp [HX.out]⟩
              case measure => simp [intOf]; omega
            | false =>
              go_wp2_with fail
              go_round
              case rel => exact ⟨j + 1, cv + 1, fb, by omega, by omega, by go_num, by go_num, rfl, by show cv + 1 = _; rw [HCT.out, if_pos HX.out, HC.out], by show fb = _; rw [HFT.out, HF.out]; simp⟩
              case measure => simp [intOf]; omega
          · have y1 : ((H : Int) % 32 == (k : Int)) = false := by simp [hx]
            have y2 : (H % 32 == k) = false := by simp; omega
            have HX := hide hx
            clear hx
            go_wp2_with fail
            go_round
            case rel => exact ⟨j + 1, cv, fb, by omega, by omega, by go_num, rfl, rfl, by show cv = _; rw [HCT.out, if_neg HX.out, HC.out]; rfl, by show fb = _; rw [HFT.out, HF.out]; simp [HX.out]⟩
            case measure => simp [intOf]; omega
        · obtain rfl : j = m := by omega
          have hc := HC.out
          have hf := HF.out
          rw [List.take_of_length_le (by rw [HL.out]; omega)] at hc hf
          have HC2 := hide hc
          have HF2 := hide hf
          clear hc hf HC HF
          cases fb with
          | false =>
            go_wp2_with fail
            go_round
            case rel => exact ⟨k + 1, by omega, by go_num, by
              show ∀ j, j < k + 1 → _
              intro i hi
              rcases Nat.lt_or_ge i k with h | h
              · exact HN.out i h
              · rw [show i = k from by omega, ← HF2.out]; rfl⟩
            case measure => simp [intOf]; omega
          | true =>
            by_cases h3 : cv ≤ 3
            · have t1 : decide ((cv : Int) ≤ 3) = true := by simp; omega
              have t2 : decide (cv ≤ 3) = true := by simp; omega
              have hw1 : IntKind.i64.wrap ((cv : Int) * 32) = (cv : Int) * 32 := by simp only [IntKind.wrap_i64]; omega
              have hw2 : IntKind.i64.wrap ((cv : Int) * 32 + (k : Int)) = (cv : Int) * 32 + (k : Int) := by simp only [IntKind.wrap_i64]; omega
              have hfr : frV n hs = (cv : Int) * 32 + k := by
                unfold frV hdFresh
                rw [find_range_some hlt (by rw [← HF2.out, ← HC2.out]; simp; omega) HN.out]
                dsimp only
                rw [← HC2.out]
              have HFR := hide hfr
              clear hfr h3
              go_wp2_with fail
              go_ret
              exact ⟨by rw [HFR.out]; rfl, rfl⟩
            · have t1 : decide ((cv : Int) ≤ 3) = false := by simp; omega
              have t2 : decide (cv ≤ 3) = false := by simp; omega
              have H3 := hide h3
              clear h3
              go_wp2_with fail
              go_round
              case rel => exact ⟨k + 1, by omega, by go_num, by
                show ∀ j, j < k + 1 → _
                intro i hi
                rcases Nat.lt_or_ge i k with h | h
                · exact HN.out i h
                · have := H3.out
                  rw [show i = k from by omega, ← HC2.out]; simp; intro _; omega⟩
              case measure => simp [intOf]; omega
    · obtain rfl : k = n := by omega
      have hfr : frV k hs = -1 := by
        unfold frV hdFresh
        rw [find_range_none HN.out]
      have HFR := hide hfr
      clear hfr
      go_wp2_with fail
      go_ret
      exact ⟨by rw [HFR.out]; rfl, rfl⟩
end Go.Proofs.YtkifmnelmmogfaaDoor

namespace Go.Proofs.YtkifmnelmmogfaaDoor
open Go.RowKit

theorem hdAt_take (hs : List Hnd) (x : Int) (m : Nat) (h : m < hs.length) :
    (List.range (m + 1)).reverse.find? (fun i => match hs[i]? with | some e => e.live && decide (e.h = x) | none => false) =
      (if hs[m].live && decide (hs[m].h = x) then some m else (List.range m).reverse.find? (fun i => match hs[i]? with | some e => e.live && decide (e.h = x) | none => false)) := by
  rw [List.range_succ, List.reverse_append, List.reverse_singleton, List.singleton_append, List.find?_cons, List.getElem?_eq_getElem h]
  dsimp only
  cases hs[m].live && decide (hs[m].h = x) <;> rfl
def atV (o : Option Nat) : Int := match o with | some i => (i : Int) | none => -1
def atP (hs : List Hnd) (x : Int) (m : Nat) : Option Nat := (List.range m).reverse.find? (fun i => match hs[i]? with | some e => e.live && decide (e.h = x) | none => false)
theorem set_self_ {α : Type} (l : List α) (i : Nat) (a : α) (h : l[i]? = some a) : l.set i a = l := by
  refine List.ext_getElem? fun j => ?_
  rw [List.getElem?_set]
  split
  · rename_i e; subst e; rw [h, if_pos (List.getElem?_eq_some_iff.1 h).1]
  · rfl
theorem boolV_set (l : List Bool) (k : Nat) (b : Bool) : (boolV l).set k (.bool b) = boolV (l.set k b) := by unfold boolV; rw [List.map_set]

set_option maxRecDepth 100000 in
set_option maxHeartbeats 32000000 in
theorem handles_any (w : World) (n : Nat) (Ad : Option Addr) (nd cd : Nat) (ds : List (Int × Int)) (h32 : n ≤ 32) (hnd : nd ≤ 100) (hD : Rd w (fun _ => True) 2 Ad nd (gripV ds)) :
    Calls Tryd.prog 6 #[.int .i64 n, .slice Ad nd cd] w fun e w' => ∃ A c, e = .returned (.slice A nd c) ∧ Below w.heap.size w w' ∧ Rd w' (fun g => w.heap.size ≤ g) 3 A nd (outsV (hdRun n ds).1) := by
  have HDL := hide (show ds.length = nd by have := hD.1; rw [gripV_length] at this; omega)
  have HS0 := hide ((((Sep.nil No w).nilRow 2 1).nilRow 2 1).nilRow 4 1 |>.nilRow 42 3)
  go_enter Tryd.func6, Tryd.ntmps6
  go_wp2_with fail
  go_loopw [5, 6, 7, 8, 17] (fun sh sv sl s i wr => ∃ (k m : Nat) (A A1 A2 A3 : Option Addr) (c c1 c2 c3 : Nat), k ≤ nd ∧ i = .int .i64 k ∧ sh = .slice A1 m c1 ∧ sv = .slice A2 m c2 ∧ sl = .slice A3 m c3 ∧ s = .slice A k c ∧ Hid ((hdRun n (ds.take k)).2.length = m) ∧
    Sep No w wr [rowI 2 1 A1 m c1 (ints ((hdRun n (ds.take k)).2.map Hnd.h)), rowI 2 1 A2 m c2 (ints ((hdRun n (ds.take k)).2.map Hnd.v)), rowI 4 1 A3 m c3 (boolV ((hdRun n (ds.take k)).2.map Hnd.live)), rowI 42 3 A k c (outsV (hdRun n (ds.take k)).1)]) (fun _ _ _ _ i _ => nd - (intOf i).toNat)
  case atStart => exact ⟨0, 0, none, none, none, none, 0, 0, 0, 0, by omega, rfl, rfl, rfl, rfl, rfl, rfl, HS0.out⟩
  case round =>
    clear HS0
    obtain ⟨k, m, A, A1, A2, A3, c, c1, c2, c3, hk, rfl, rfl, rfl, rfl, rfl, HM, hS⟩ := hrel
    have htl : (ds.take k).length = k := by rw [List.length_take, HDL.out]; omega
    obtain ⟨_, hInv, hlen, _⟩ := run_inv h32 (ds.take k)
    have hm : m ≤ 100 := by have := HM.out; omega
    by_cases hlt : k < nd
    · have hkl : k < ds.length := by rw [HDL.out]; exact hlt
      obtain ⟨v0, v1⟩ := gripV_at ds k hkl
      obtain ⟨ad, hA, _, had, hc, hd⟩ := (hD.below hS.below_).atN hlt
      have e0 := hc _ v0
      have e1 := hd 0 _ v1
      have hrs := hdRun_snoc n (ds.take k) ds[k]
      rw [← List.take_succ_eq_append_getElem hkl] at hrs
      unfold hdRs at hrs
      obtain ⟨d, hd'⟩ : ∃ d, ds[k] = d := ⟨_, rfl⟩
      rw [hd'] at e0 e1 hrs
      obtain ⟨kk, x⟩ := d
      dsimp only at e0 e1 hrs
      obtain ⟨os, hos⟩ : ∃ o, (hdRun n (ds.take k)).1 = o := ⟨_, rfl⟩
      obtain ⟨hs, hhs⟩ : ∃ o, (hdRun n (ds.take k)).2 = o := ⟨_, rfl⟩
      rw [hos, hhs] at hrs hS
      rw [hhs] at HM hInv
      obtain ⟨b9, hb9⟩ : ∃ x, wr.heap.size = x := ⟨_, rfl⟩
      have hS2 := (hS.blkAt 35 #[.int .i64 kk, .int .i64 x] hb9).blkAt 42 #[.int .i64 5, .bool false, .int .i64 0] (g := b9 + 1) (by simp [hb9])
      have HRS := hide hrs
      have HINV := hide hInv
      have HS2 := hide hS2
      subst hA
      clear hc hd v0 v1 hrs hd' hS2 hS htl hInv hlen hos hhs
      go_wp2_with fail
      go_loopw [12, 13] (fun a i wx => ∃ j : Nat, j ≤ m ∧ i = .int .i64 j ∧ a = .int .i64 (atV (atP hs x j)) ∧ Sep No w wx [rowI 2 1 A1 m c1 (ints (hs.map Hnd.h)), rowI 2 1 A2 m c2 (ints (hs.map Hnd.v)), rowI 4 1 A3 m c3 (boolV (hs.map Hnd.live)), rowI 42 3 A k c (outsV os), blkI b9 35 #[.int .i64 kk, .int .i64 x], blkI (b9 + 1) 42 #[.int .i64 5, .bool false, .int .i64 0]]) (fun _ i _ => m - (intOf i).toNat)
      case atStart => exact ⟨0, by omega, rfl, rfl, HS2.out⟩
      case round =>
        clear HS2 e0 e1
        obtain ⟨j, hj, rfl, rfl, hS⟩ := hrel
        obtain ⟨b1, b2, b3, _⟩ := hS.rules 4 (g := b9) (t := 35) rfl
        have b5 := (b1 1).trans (show _ = some (.int .i64 x) from rfl)
        have b6 := (b1 0).trans (show _ = some (.int .i64 kk) from rfl)
        by_cases hjl : j < m
        · have hjh : j < hs.length := by rw [HM.out]; exact hjl
          obtain ⟨ad1, hA1, _, hx1, hc1⟩ := (hS.rd_ 0 rfl).at_ hjl
          obtain ⟨ad2, hA2, _, hx2, hc2⟩ := (hS.rd_ 2 rfl).at_ hjl
          have e0 := hc1 (.int .i64 hs[j].h) (by simp [List.getElem?_eq_getElem hjh])
          have e1 := hc2 (.bool hs[j].live) (by simp [boolV, List.getElem?_eq_getElem hjh])
          have hat := hdAt_take hs x j hjh
          obtain ⟨e, he⟩ : ∃ e, hs[j] = e := ⟨_, rfl⟩
          rw [he] at e0 e1 hat
          obtain ⟨hh, hv, hl⟩ := e
          dsimp only at e0 e1 hat
          have HAT := hide hat
          have HS := hide hS
          subst hA1 hA2
          clear hc1 hc2 he hat hjh hS b1
          have t1 : decide ((j : Int) < 0) = false := by simp
          have t2 : decide ((m : Int) ≤ (j : Int)) = false := by simp; omega
          cases hl with
          | false =>
            have HR := hide (show atP hs x (j + 1) = atP hs x j from by unfold atP; rw [HAT.out]; simp)
            go_wp2_with fail
            go_quiet (fail)
            go_wp2_with fail
            go_roundw
            case rel => exact ⟨j + 1, by omega, by go_num, by rw [HR.out], HS.out.drewN _⟩
            case measure => simp [intOf]; omega
          | true =>
            by_cases hx : hh = x
            · have y1 : (hh == x) = true := by simp [hx]
              have HR := hide (show atP hs x (j + 1) = some j from by unfold atP; rw [HAT.out]; simp [hx])
              clear hx
              go_wp2_with fail
              go_quiet (fail)
              go_wp2_with fail
              go_roundw
              case rel => exact ⟨j + 1, by omega, by go_num, by rw [HR.out]; rfl, HS.out.drewN _⟩
              case measure => simp [intOf]; omega
            · have y1 : (hh == x) = false := by simp [hx]
              have HR := hide (show atP hs x (j + 1) = atP hs x j from by unfold atP; rw [HAT.out]; simp [hx])
              clear hx
              go_wp2_with fail
              go_quiet (fail)
              go_wp2_with fail
              go_roundw
              case rel => exact ⟨j + 1, by omega, by go_num, by rw [HR.out], HS.out.drewN _⟩
              case measure => simp [intOf]; omega
        · obtain rfl : j = m := by omega
          have hat : atP hs x j = hdAt hs x := by unfold atP hdAt; rw [HM.out]; rfl
          rw [hat]
          have CF := fresh_any wr _ _ A1 A3 n j c1 c3 hs h32 (by omega) (hS.rd_ 0 rfl) (hS.rd_ 2 rfl) (fun e he => (HINV.out.rng e he).1)
          obtain ⟨x1, x2, x3, _⟩ := hS.rules 5 (g := b9 + 1) (t := 42) rfl
          have x5 := (x1 0).trans (show _ = some (.int .i64 5) from rfl)
          have x6 := (x1 1).trans (show _ = some (.bool false) from rfl)
          have x7 := (x1 2).trans (show _ = some (.int .i64 0) from rfl)
          have hrs := HRS.out
          clear hat b1 x1 HRS
          by_cases h1 : kk = 1
          · subst h1
            have hst : hdStep n 1 x hs = match hdFresh n hs with | some s => ((0, (hdCnt hs s : Int) * 32 + s), hs ++ [⟨(hdCnt hs s : Int) * 32 + s, x, true⟩]) | none => ((6, 0), hs) := rfl
            rw [hst] at hrs
            unfold frV at CF
            cases hf : hdFresh n hs with
            | none =>
              rw [hf] at hrs CF
              dsimp only at hrs CF
              have HRS := hide hrs
              have hS9 := ((hS.set_ 5 (g := b9 + 1) (t := 42) rfl 0 (.int .i64 6)).set_ 5 (g := b9 + 1) (t := 42) rfl 1 (.bool false)).set_ 5 (g := b9 + 1) (t := 42) rfl 2 (.int .i64 0)
              have HS := hide hS
              have HCF := hide CF
              have HS9 := hide hS9
              clear hrs hS CF hst hf hS9
              go_wp2_with fail
              refine HCF.out.mono ?_
              rintro e w4 ⟨rfl, rfl⟩
              go_wp2_with (first
                | (at_builtin
                   refine wpList_app1 (cs := #[.int .i64 6, .bool false, .int .i64 0]) rfl (.tmp 89) (.tmp 91) 23 rfl (F := No) (W := w) sOut (items := _ :: _ :: _ :: _ :: _) HS9.out 3 (n := k) rfl rfl rfl (by simp) rfl rfl (by omega) ?_
                   intro A6 c6 w6 hS6 hC6))
              exact ⟨⟨k + 1, j, A6, A1, A2, A3, c6, c1, c2, c3, by omega, by go_num, rfl, rfl, rfl, rfl, by
                show (hdRun n (ds.take (k + 1))).2.length = _
                rw [HRS.out]
                exact HM.out, by
                rw [HRS.out]
                dsimp only
                rw [outsV_app]
                exact hS6.sub (List.sublist_append_left [_, _, _, _] [_, _])⟩, by simp [intOf]; omega⟩
            | some q =>
              rw [hf] at hrs CF
              dsimp only at hrs CF
              obtain ⟨Hn, hHn⟩ : ∃ Hn : Nat, (hdCnt hs q : Int) * 32 + q = (Hn : Int) := ⟨hdCnt hs q * 32 + q, by omega⟩
              rw [hHn] at hrs CF
              have HRS := hide hrs
              have hS9 := (((((hS.set_ 5 (g := b9 + 1) (t := 42) rfl 0 (.int .i64 6)).set_ 5 (g := b9 + 1) (t := 42) rfl 1 (.bool false)).set_ 5 (g := b9 + 1) (t := 42) rfl 2 (.int .i64 0)).set_ 5 (g := b9 + 1) (t := 42) rfl 0 (.int .i64 0)).set_ 5 (g := b9 + 1) (t := 42) rfl 1 (.bool false)).set_ 5 (g := b9 + 1) (t := 42) rfl 2 (.int .i64 (Hn : Int))
              have HS := hide hS
              have HCF := hide CF
              have HS9 := hide hS9
              clear hrs hS CF hst hf hS9 hHn
              go_wp2_with fail
              refine HCF.out.mono ?_
              rintro e w4 ⟨rfl, rfl⟩
              go_wp2_with (first
                | (at_builtin
                   refine wpList_app1 (cs := #[.int .i64 (Hn : Int)]) rfl (.tmp 54) (.tmp 56) 43 rfl (F := No) (W := w) sInt (items := _ :: _ :: _ :: _ :: _) HS9.out 0 (n := j) rfl rfl rfl (by simp) rfl rfl (by omega) ?_
                   intro A4 c4 w4 hS4 hC4
                   obtain ⟨y1, y2, y3, _⟩ := hS4.rules 4 (g := b9) (t := 35) rfl
                   (have y5 := (y1 1).trans (show _ = some (.int .i64 x) from rfl))
                   (have y6 := (y1 0).trans (show _ = some (.int .i64 1) from rfl))
                   clear y1 hC4 HS9)
                | (at_builtin
                   refine wpList_app1 (cs := #[.int .i64 x]) rfl (.tmp 58) (.tmp 61) 43 rfl (F := No) (W := w) sInt (items := _ :: _ :: _ :: _ :: _) hS4 1 (n := j) rfl rfl rfl (by simp) rfl rfl (by omega) ?_
                   intro A5 c5 w5 hS5 hC5
                   clear hS4 hC5)
                | (at_builtin
                   refine wpList_app1 (cs := #[.bool true]) rfl (.tmp 63) (.tmp 64) 44 rfl (F := No) (W := w) sBool (items := _ :: _ :: _ :: _ :: _) hS5 2 (n := j) rfl rfl rfl (by simp) rfl rfl (by omega) ?_
                   intro A7 c7 w7 hS7 hC7
                   obtain ⟨z1, z2, z3, _⟩ := hS7.rules 5 (g := b9 + 1) (t := 42) rfl
                   (have z5 := (z1 0).trans (show _ = some (.int .i64 0) from rfl))
                   (have z6 := (z1 1).trans (show _ = some (.bool false) from rfl))
                   (have z7 := (z1 2).trans (show _ = some (.int .i64 (Hn : Int)) from rfl))
                   obtain ⟨u1, u2, u3, _⟩ := hS7.rules 4 (g := b9) (t := 35) rfl
                   (have u5 := (u1 1).trans (show _ = some (.int .i64 x) from rfl))
                   (have u6 := (u1 0).trans (show _ = some (.int .i64 1) from rfl))
                   clear z1 u1 hC7 hS5)
                | (at_builtin
                   refine wpList_app1 (cs := #[.int .i64 0, .bool false, .int .i64 (Hn : Int)]) rfl (.tmp 89) (.tmp 91) 23 rfl (F := No) (W := w) sOut (items := _ :: _ :: _ :: _ :: _) hS7 3 (n := k) rfl rfl rfl (by simp) rfl rfl (by omega) ?_
                   intro A6 c6 w6 hS6 hC6))
              exact ⟨⟨k + 1, j + 1, A6, A4, A5, A7, c6, c4, c5, c7, by omega, by go_num, rfl, rfl, rfl, rfl, by
                show (hdRun n (ds.take (k + 1))).2.length = _
                rw [HRS.out]
                have h := HM.out
                show (hs ++ [_]).length = j + 1
                rw [List.length_append, h]; rfl, by
                rw [HRS.out]
                dsimp only
                rw [outsV_app]
                simpa [boolV, outsV, ints] using hS6.sub (List.sublist_append_left [_, _, _, _] [_, _])⟩, by simp [intOf]; omega⟩
          · have q1 : (kk == 1) = false := by simp [h1]
            by_cases h23 : kk = 3 ∨ kk = 2
            · obtain ⟨o, ho⟩ : ∃ o, hdAt hs x = o := ⟨_, rfl⟩
              rw [ho]
              cases o with
              | none =>
                rw [show atV none = -1 from rfl]
                have hst : hdStep n kk x hs = ((2, 0), hs) := by
                  unfold hdStep
                  rw [if_neg h1]
                  rcases h23 with rfl | rfl
                  · rw [if_neg (by decide), if_pos rfl, ho]
                  · rw [if_pos rfl, ho]
                rw [hst] at hrs
                have HRS := hide hrs
                have hS9 := ((hS.set_ 5 (g := b9 + 1) (t := 42) rfl 0 (.int .i64 2)).set_ 5 (g := b9 + 1) (t := 42) rfl 1 (.bool false)).set_ 5 (g := b9 + 1) (t := 42) rfl 2 (.int .i64 0)
                have HS9 := hide hS9
                clear hrs hS CF hst ho hS9 h1
                rcases h23 with rfl | rfl
                · go_wp2_with (first
                    | (at_builtin
                       refine wpList_app1 (cs := #[.int .i64 2, .bool false, .int .i64 0]) rfl (.tmp 89) (.tmp 91) 23 rfl (F := No) (W := w) sOut (items := _ :: _ :: _ :: _ :: _) HS9.out 3 (n := k) rfl rfl rfl (by simp) rfl rfl (by omega) ?_
                       intro A6 c6 w6 hS6 hC6))
                  exact ⟨⟨k + 1, j, A6, A1, A2, A3, c6, c1, c2, c3, by omega, by go_num, rfl, rfl, rfl, rfl, by
                    show (hdRun n (ds.take (k + 1))).2.length = _
                    rw [HRS.out]
                    exact HM.out, by
                    rw [HRS.out]
                    dsimp only
                    rw [outsV_app]
                    exact hS6.sub (List.sublist_append_left [_, _, _, _] [_, _])⟩, by simp [intOf]; omega⟩
                · go_wp2_with (first
                    | (at_builtin
                       refine wpList_app1 (cs := #[.int .i64 2, .bool false, .int .i64 0]) rfl (.tmp 89) (.tmp 91) 23 rfl (F := No) (W := w) sOut (items := _ :: _ :: _ :: _ :: _) HS9.out 3 (n := k) rfl rfl rfl (by simp) rfl rfl (by omega) ?_
                       intro A6 c6 w6 hS6 hC6))
                  exact ⟨⟨k + 1, j, A6, A1, A2, A3, c6, c1, c2, c3, by omega, by go_num, rfl, rfl, rfl, rfl, by
                    show (hdRun n (ds.take (k + 1))).2.length = _
                    rw [HRS.out]
                    exact HM.out, by
                    rw [HRS.out]
                    dsimp only
                    rw [outsV_app]
                    exact hS6.sub (List.sublist_append_left [_, _, _, _] [_, _])⟩, by simp [intOf]; omega⟩
              | some i =>
                rw [show atV (some i) = (i : Int) from rfl]
                have hih : i < hs.length := by
                  unfold hdAt at ho
                  have := List.mem_of_find?_eq_some ho
                  simpa using this
                have hij : i < j := by have := HM.out; omega
                obtain ⟨e, he⟩ : ∃ e, hs[i] = e := ⟨_, rfl⟩
                have hgd : hs.getD i ⟨0, 0, false⟩ = e := by rw [List.getD_eq_getElem?_getD, List.getElem?_eq_getElem hih, he]; rfl
                have t1 : decide ((i : Int) < 0) = false := by simp
                have t2 : decide ((j : Int) ≤ (i : Int)) = false := by simp; omega
                rcases h23 with rfl | rfl
                · have hst : hdStep n 3 x hs = ((0, e.v), hs) := by
                    unfold hdStep
                    rw [if_neg (by decide), if_neg (by decide), if_pos rfl, ho]
                    dsimp only
                    rw [hgd]
                  rw [hst] at hrs
                  dsimp only at hrs
                  have HRS := hide hrs
                  have hT : Sep No w ((((((wr.setCell ⟨b9 + 1, 0, none⟩ (.int .i64 2)).setCell ⟨b9 + 1, 1, none⟩ (.bool false)).setCell ⟨b9 + 1, 2, none⟩ (.int .i64 0)).setCell ⟨b9 + 1, 0, none⟩ (.int .i64 0)).setCell ⟨b9 + 1, 1, none⟩ (.bool false)).setCell ⟨b9 + 1, 2, none⟩ (.int .i64 0)) [rowI 2 1 A1 j c1 (ints (hs.map Hnd.h)), rowI 2 1 A2 j c2 (ints (hs.map Hnd.v)), rowI 4 1 A3 j c3 (boolV (hs.map Hnd.live)), rowI 42 3 A k c (outsV os), blkI b9 35 #[.int .i64 3, .int .i64 x], blkI (b9 + 1) 42 #[.int .i64 0, .bool false, .int .i64 0]] := (((((hS.set_ 5 (g := b9 + 1) (t := 42) rfl 0 (.int .i64 2)).set_ 5 (g := b9 + 1) (t := 42) rfl 1 (.bool false)).set_ 5 (g := b9 + 1) (t := 42) rfl 2 (.int .i64 0)).set_ 5 (g := b9 + 1) (t := 42) rfl 0 (.int .i64 0)).set_ 5 (g := b9 + 1) (t := 42) rfl 1 (.bool false)).set_ 5 (g := b9 + 1) (t := 42) rfl 2 (.int .i64 0)
                  have HT := hide hT
                  clear hrs hS CF hst ho h1 hT
                  iterate 108 (first | go_values | go_skip | go_guarded | go_step | go_upon)
                  obtain ⟨W, hW⟩ : ∃ W, ((((((wr.setCell ⟨b9 + 1, 0, none⟩ (.int .i64 2)).setCell ⟨b9 + 1, 1, none⟩ (.bool false)).setCell ⟨b9 + 1, 2, none⟩ (.int .i64 0)).setCell ⟨b9 + 1, 0, none⟩ (.int .i64 0)).setCell ⟨b9 + 1, 1, none⟩ (.bool false)).setCell ⟨b9 + 1, 2, none⟩ (.int .i64 0)) = W := ⟨_, rfl⟩
                  rw [hW] at HT ⊢
                  clear hW x2 x3 x5 x6 x7 b2 b3 b5 b6
                  have hT := HT.out
                  obtain ⟨x1, x2, x3, _⟩ := hT.rules 5 (g := b9 + 1) (t := 42) rfl
                  have x5 := (x1 0).trans (show _ = some (.int .i64 0) from rfl)
                  have x6 := (x1 1).trans (show _ = some (.bool false) from rfl)
                  have x7 := (x1 2).trans (show _ = some (.int .i64 0) from rfl)
                  obtain ⟨b1, b2, b3, _⟩ := hT.rules 4 (g := b9) (t := 35) rfl
                  have b5 := (b1 1).trans (show _ = some (.int .i64 x) from rfl)
                  have b6 := (b1 0).trans (show _ = some (.int .i64 3) from rfl)
                  obtain ⟨g2, hg2⟩ := hown_addr (show W.ownsRow 0 2 1 (.slice A2 j c2) j _ from hT.get 1 rfl) (by omega)
                  subst hg2
                  obtain ⟨fd, hA2, _, hx2, hc2⟩ := (hT.rd_ 1 rfl).at_ hij
                  have f0 := hc2 (.int .i64 e.v) (by simp [List.getElem?_eq_getElem hih, he])
                  obtain rfl : fd = ⟨g2, 0, none⟩ := by injection hA2 with h; exact h.symm
                  rw [hraddr0] at f0
                  have hS9 := hT.set_ 5 (g := b9 + 1) (t := 42) rfl 2 (.int .i64 e.v)
                  obtain ⟨ev, hev⟩ : ∃ v, e.v = v := ⟨_, rfl⟩
                  rw [hev] at f0 HRS hS9
                  have HS9 := hide hS9
                  clear hc2 hA2 he hgd hih hev hT HT hS9 x1 b1
                  go_wp2_with (first
                    | (at_builtin
                       refine wpList_app1 (cs := #[.int .i64 0, .bool false, .int .i64 ev]) rfl (.tmp 89) (.tmp 91) 23 rfl (F := No) (W := w) sOut (items := _ :: _ :: _ :: _ :: _) HS9.out 3 (n := k) rfl rfl rfl (by simp) rfl rfl (by omega) ?_
                       intro A6 c6 w6 hS6 hC6))
                  exact ⟨⟨k + 1, j, A6, A1, some ⟨g2, 0, none⟩, A3, c6, c1, c2, c3, by omega, by go_num, rfl, rfl, rfl, rfl, by
                    show (hdRun n (ds.take (k + 1))).2.length = _
                    rw [HRS.out]
                    exact HM.out, by
                    rw [HRS.out]
                    dsimp only
                    rw [outsV_app]
                    exact hS6.sub (List.sublist_append_left [_, _, _, _] [_, _])⟩, by simp [intOf]; omega⟩
                · have hst : hdStep n 2 x hs = ((0, 0), hs.set i ⟨e.h, e.v, false⟩) := by
                    unfold hdStep
                    rw [if_neg (by decide), if_pos rfl, ho]
                    dsimp only
                    rw [hgd]
                  rw [hst] at hrs
                  dsimp only at hrs
                  have HRS := hide hrs
                  have hT : Sep No w ((((((wr.setCell ⟨b9 + 1, 0, none⟩ (.int .i64 2)).setCell ⟨b9 + 1, 1, none⟩ (.bool false)).setCell ⟨b9 + 1, 2, none⟩ (.int .i64 0)).setCell ⟨b9 + 1, 0, none⟩ (.int .i64 0)).setCell ⟨b9 + 1, 1, none⟩ (.bool false)).setCell ⟨b9 + 1, 2, none⟩ (.int .i64 0)) [rowI 2 1 A1 j c1 (ints (hs.map Hnd.h)), rowI 2 1 A2 j c2 (ints (hs.map Hnd.v)), rowI 4 1 A3 j c3 (boolV (hs.map Hnd.live)), rowI 42 3 A k c (outsV os), blkI b9 35 #[.int .i64 2, .int .i64 x], blkI (b9 + 1) 42 #[.int .i64 0, .bool false, .int .i64 0]] := (((((hS.set_ 5 (g := b9 + 1) (t := 42) rfl 0 (.int .i64 2)).set_ 5 (g := b9 + 1) (t := 42) rfl 1 (.bool false)).set_ 5 (g := b9 + 1) (t := 42) rfl 2 (.int .i64 0)).set_ 5 (g := b9 + 1) (t := 42) rfl 0 (.int .i64 0)).set_ 5 (g := b9 + 1) (t := 42) rfl 1 (.bool false)).set_ 5 (g := b9 + 1) (t := 42) rfl 2 (.int .i64 0)
                  have HT := hide hT
                  clear hrs hS CF hst ho h1 hT
                  iterate 108 (first | go_values | go_skip | go_guarded | go_step | go_upon)
                  obtain ⟨W, hW⟩ : ∃ W, ((((((wr.setCell ⟨b9 + 1, 0, none⟩ (.int .i64 2)).setCell ⟨b9 + 1, 1, none⟩ (.bool false)).setCell ⟨b9 + 1, 2, none⟩ (.int .i64 0)).setCell ⟨b9 + 1, 0, none⟩ (.int .i64 0)).setCell ⟨b9 + 1, 1, none⟩ (.bool false)).setCell ⟨b9 + 1, 2, none⟩ (.int .i64 0)) = W := ⟨_, rfl⟩
                  rw [hW] at HT ⊢
                  clear hW x2 x3 x5 x6 x7 b2 b3 b5 b6
                  have hT := HT.out
                  obtain ⟨x1, x2, x3, _⟩ := hT.rules 5 (g := b9 + 1) (t := 42) rfl
                  have x5 := (x1 0).trans (show _ = some (.int .i64 0) from rfl)
                  have x6 := (x1 1).trans (show _ = some (.bool false) from rfl)
                  have x7 := (x1 2).trans (show _ = some (.int .i64 0) from rfl)
                  obtain ⟨b1, b2, b3, _⟩ := hT.rules 4 (g := b9) (t := 35) rfl
                  have b5 := (b1 1).trans (show _ = some (.int .i64 x) from rfl)
                  have b6 := (b1 0).trans (show _ = some (.int .i64 2) from rfl)
                  obtain ⟨g2, hg2⟩ := hown_addr (show W.ownsRow 0 4 1 (.slice A3 j c3) j _ from hT.get 2 rfl) (by omega)
                  subst hg2
                  obtain ⟨fd, hA2, _, hx2, hc2⟩ := (hT.rd_ 2 rfl).at_ hij
                  have f0 := hc2 (.bool e.live) (by simp [boolV, List.getElem?_eq_getElem hih, he])
                  obtain rfl : fd = ⟨g2, 0, none⟩ := by injection hA2 with h; exact h.symm
                  rw [hraddr0] at f0
                  have f1 := World.ownsRow.frozenAt (show W.ownsRow 0 4 1 (.slice (some ⟨g2, 0, none⟩) j c3) j _ from hT.get 2 rfl) i
                  have n1 : g2 ≠ b9 + 1 := fun e => hT.other (a := 2) (b := 5) rfl rfl (by omega) g2 rfl e
                  have n2 : b9 + 1 ≠ g2 := fun e => n1 e.symm
                  have hS9 := hT.store 2 (g := g2) rfl i (.bool false)
                  rw [boolV_set, show (hs.map Hnd.live).set i false = (hs.set i ⟨e.h, e.v, false⟩).map Hnd.live by rw [List.map_set]] at hS9
                  obtain ⟨z1, z2, z3, _⟩ := hS9.rules 5 (g := b9 + 1) (t := 42) rfl
                  have z5 := (z1 0).trans (show _ = some (.int .i64 0) from rfl)
                  have z6 := (z1 1).trans (show _ = some (.bool false) from rfl)
                  have z7 := (z1 2).trans (show _ = some (.int .i64 0) from rfl)
                  have hh1 : (hs.set i ⟨e.h, e.v, false⟩).map Hnd.h = hs.map Hnd.h := by rw [List.map_set]; exact set_self_ _ _ _ (by rw [List.getElem?_map, List.getElem?_eq_getElem hih, he]; rfl)
                  have hh2 : (hs.set i ⟨e.h, e.v, false⟩).map Hnd.v = hs.map Hnd.v := by rw [List.map_set]; exact set_self_ _ _ _ (by rw [List.getElem?_map, List.getElem?_eq_getElem hih, he]; rfl)
                  have HH1 := hide hh1
                  have HH2 := hide hh2
                  have HS9 := hide hS9
                  clear hc2 hA2 he hgd hih hh1 hh2 hT HT hS9 x1 b1 z1
                  go_wp2_with (first
                    | (at_builtin
                       refine wpList_app1 (cs := #[.int .i64 0, .bool false, .int .i64 0]) rfl (.tmp 89) (.tmp 91) 23 rfl (F := No) (W := w) sOut (items := _ :: _ :: _ :: _ :: _) HS9.out 3 (n := k) rfl rfl rfl (by simp) rfl rfl (by omega) ?_
                       intro A6 c6 w6 hS6 hC6))
                  exact ⟨⟨k + 1, j, A6, A1, A2, some ⟨g2, 0, none⟩, c6, c1, c2, c3, by omega, by go_num, rfl, rfl, rfl, rfl, by
                    show (hdRun n (ds.take (k + 1))).2.length = _
                    rw [HRS.out]
                    show (hs.set i _).length = j
                    rw [List.length_set]; exact HM.out, by
                    rw [HRS.out]
                    dsimp only
                    rw [outsV_app]
                    rw [HH1.out, HH2.out]
                    exact hS6.sub (List.sublist_append_left [_, _, _, _] [_, _])⟩, by simp [intOf]; omega⟩
            · have h2 : ¬ kk = 2 := fun h => h23 (.inr h)
              have h3 : ¬ kk = 3 := fun h => h23 (.inl h)
              have q2 : (kk == 2) = false := by simp [h2]
              have q3 : (kk == 3) = false := by simp [h3]
              have hst : hdStep n kk x hs = ((5, 0), hs) := by unfold hdStep; rw [if_neg h1, if_neg h2, if_neg h3]
              rw [hst] at hrs
              have HRS := hide hrs
              have HS9 := hide hS
              clear hrs hS CF hst h1 h2 h3 h23
              go_wp2_with (first
                | (at_builtin
                   refine wpList_app1 (cs := #[.int .i64 5, .bool false, .int .i64 0]) rfl (.tmp 89) (.tmp 91) 23 rfl (F := No) (W := w) sOut (items := _ :: _ :: _ :: _ :: _) HS9.out 3 (n := k) rfl rfl rfl (by simp) rfl rfl (by omega) ?_
                   intro A6 c6 w6 hS6 hC6))
              exact ⟨⟨k + 1, j, A6, A1, A2, A3, c6, c1, c2, c3, by omega, by go_num, rfl, rfl, rfl, rfl, by
                show (hdRun n (ds.take (k + 1))).2.length = _
                rw [HRS.out]
                exact HM.out, by
                rw [HRS.out]
                dsimp only
                rw [outsV_app]
                exact hS6.sub (List.sublist_append_left [_, _, _, _] [_, _])⟩, by simp [intOf]; omega⟩
    · obtain rfl : k = nd := by omega
      rw [List.take_of_length_le (by rw [HDL.out]; omega)] at hS
      have HS := hide hS
      clear hS htl hlen hInv
      go_wp2_with fail
      go_ret
      exact ⟨A, c, rfl, HS.out.below_, HS.out.rd 3 rfl⟩
end Go.Proofs.YtkifmnelmmogfaaDoor

namespace Go.Proofs.YtkifmnelmmogfaaDoor
open Go.RowKit

set_option maxRecDepth 100000 in
set_option maxHeartbeats 8000000 in
theorem handlePlays_walk (w : World) (hg : eTy w) (size : Int) (Ad : Option Addr) (nd cd : Nat) (ds : List (Int × Int)) (hD : Rd w (fun _ => True) 2 Ad nd (gripV ds)) (hbd : ∀ d ∈ ds, -9223372036854775808 ≤ d.2 ∧ d.2 ≤ 9223372036854775807) :
    Calls Tryd.prog 3 #[.int .i64 size, .slice Ad nd cd] w fun e w' => e = .returned (.bool true) ∧ Below w.heap.size w w' := by
  by_cases hz : hErr size nd = 0
  · have h1 : 1 ≤ size ∧ size ≤ 32 ∧ nd ≤ 100 := by
      unfold hErr at hz
      split at hz
      · omega
      · split at hz
        · omega
        · omega
    obtain ⟨n, rfl⟩ := int_nat (show 0 ≤ size by omega)
    have C1 := hide (hplay_ok w hg n Ad nd cd ds (by omega) (by omega) h1.2.2 hD hbd)
    have C2 := hide (fun (X : World) (hb : Below w.heap.size w X) => handles_any X n Ad nd cd ds (by omega) h1.2.2 (hD.below hb))
    have HI := hide (run_inv (show n ≤ 32 by omega) ds).1
    have t1 : decide ((n : Int) < 1) = false := by simp; omega
    have t2 : decide ((32 : Int) < (n : Int)) = false := by simp; omega
    have t3 : decide ((100 : Int) < (nd : Int)) = false := by simp; omega
    have t4 : decide (100 < nd) = false := by simp; omega
    have t5 : decide (n < 1) = false := by simp; omega
    have t6 : decide (32 < n) = false := by simp; omega
    have hnd := h1.2.2
    clear hz h1 hD hbd hg
    go_enter Tryd.func3, Tryd.ntmps3
    go_wp2_with fail
    refine C1.out.mono ?_
    rintro e w1 ⟨A1, c1, rfl, hb1, hr1⟩
    have HB1 := hide hb1
    have HR1 := hide hr1
    have C2 := hide (C2.out w1 hb1)
    clear C1 hb1 hr1
    go_wp2_with fail
    refine C2.out.mono ?_
    rintro e w2 ⟨A2, c2, rfl, hb2, hr2⟩
    rw [← HI.out] at hr2
    have C3 := hide (outs_any w2 A1 A2 nd c1 c2 _ (by omega) ((HR1.out.below hb2).more (fun _ _ _ => trivial)) (hr2.more (fun _ _ _ => trivial)))
    have HB2 := hide (HB1.out.trans (hb2.mono HB1.out.size))
    clear C2 hb2 hr2 HR1 HB1
    go_wp2_with fail
    refine C3.out.mono ?_
    rintro e w3 ⟨rfl, hb3⟩
    have HB3 := hide (HB2.out.trans (hb3.mono HB2.out.size))
    clear C3 hb3 HB2
    go_wp2_with fail
    go_ret
    exact ⟨rfl, HB3.out⟩
  · have C1 := hide (hplay_no w size Ad nd cd hz)
    clear hD hbd hg
    unfold hErr at hz C1
    by_cases h1 : size < 1
    · rw [if_pos (.inl h1)] at C1
      have t1 : decide (size < 1) = true := by simp [h1]
      clear hz h1
      go_enter Tryd.func3, Tryd.ntmps3
      go_wp2_with fail
      refine C1.out.mono ?_
      rintro e w1 ⟨rfl, rfl⟩
      go_wp2_with fail
      go_ret
      exact ⟨rfl, Below.refl _ _⟩
    · have t1 : decide (size < 1) = false := by simp only [h1, decide_false]
      by_cases h2 : 32 < size
      · rw [if_pos (.inr h2)] at C1
        have t2 : decide (32 < size) = true := by simp [h2]
        clear hz h1 h2
        go_enter Tryd.func3, Tryd.ntmps3
        go_wp2_with fail
        refine C1.out.mono ?_
        rintro e w1 ⟨rfl, rfl⟩
        go_wp2_with fail
        go_ret
        exact ⟨rfl, Below.refl _ _⟩
      · have t2 : decide (32 < size) = false := by simp only [h2, decide_false]
        rw [if_neg (by omega)] at hz C1
        by_cases h3 : 100 < nd
        · rw [if_pos h3] at C1
          have t3 : decide ((100 : Int) < (nd : Int)) = true := by simp; omega
          have t4 : decide (100 < nd) = true := by simp; omega
          clear hz h1 h2 h3
          go_enter Tryd.func3, Tryd.ntmps3
          go_wp2_with fail
          refine C1.out.mono ?_
          rintro e w1 ⟨rfl, rfl⟩
          go_wp2_with fail
          go_ret
          exact ⟨rfl, Below.refl _ _⟩
        · rw [if_neg h3] at hz
          exact absurd rfl hz
end Go.Proofs.YtkifmnelmmogfaaDoor
