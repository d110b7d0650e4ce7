/- arena: the program's Walk with Check's closure. -/
import Derived.Test.YtpbafmdebflbpaaArnA
namespace Go.Proofs.Ytpbafmdebflbpaa
open Go.RowKit Go.Maps

theorem parse_none {f at_ : Nat} {ws : List Int} (h : at_ < ws.length) (hf : ws.length ≤ f + at_) (hn : ¬ (unheadOK (ws.getD at_ 0) ∧ hLen (ws.getD at_ 0) < (ws.length : Int) - at_)) : parse f ws at_ = ([], false) := by
  cases f with
  | zero => omega
  | succ f => simp only [parse, if_pos h, if_neg hn]
theorem parse_some {f at_ len : Nat} {ws : List Int} (h : at_ < ws.length) (hf : ws.length ≤ f + at_) (hn : unheadOK (ws.getD at_ 0)) (hl : hLen (ws.getD at_ 0) = (len : Int)) (hlt : at_ + 1 + len ≤ ws.length) :
    ∃ f', ws.length ≤ f' + (at_ + 1 + len) ∧ parse f ws at_ = ((at_, len) :: (parse f' ws (at_ + 1 + len)).1, (parse f' ws (at_ + 1 + len)).2) := by
  cases f with
  | zero => omega
  | succ f =>
    refine ⟨f, by omega, ?_⟩
    simp only [parse, if_pos h]
    rw [if_pos ⟨hn, by rw [hl]; omega⟩, hl]
    simp
theorem parse_end {f : Nat} {ws : List Int} : parse f ws ws.length = ([], true) := by
  cases f with
  | zero => simp [parse]
  | succ f => simp [parse]

set_option maxRecDepth 100000 in
set_option maxHeartbeats 4000000 in
theorem walkCk_any (w : World) (b bm bf ba : Nat) (Af0 : Option Addr) (nf0 cf0 : Nat) (xs0 : List Int) (Aw : Option Addr) (nw cw : Nat) (Ar : Option Addr) (nr cr : Nat) (ws : List Int)
    (hs : (allI (CkItems b bm bf ba 0 (mapD []) Af0 nf0 cf0 xs0 Aw nw cw Ar nr cr)).P w) (hw : Rd w (fun g => ¬ (allI (CkItems b bm bf ba 0 (mapD []) Af0 nf0 cf0 xs0 Aw nw cw Ar nr cr)).fp g) 1 Aw nw (u64s ws)) (hcw : nw ≤ cw) (hcw2 : cw ≤ 9223372036854775807) (hn : nw ≤ 256) (hnf : nf0 ≤ 1000)
    (hws : ∀ x ∈ ws, 0 ≤ x ∧ x ≤ 18446744073709551615) :
    Calls Try.prog 74 #[.slice Aw nw cw, .func (.func 75) #[] #[.pointer (some ⟨bm, 0, none⟩), .pointer (some ⟨bf, 0, none⟩), .pointer (some ⟨ba, 0, none⟩)]] w fun e w' => ∃ (pre : List (Nat × Nat)) (Af : Option Addr) (nf cf : Nat),
      e = .returned (.bool (parse nw ws 0).2) ∧ ((parse nw ws 0).2 = true → pre = (parse nw ws 0).1) ∧ nf ≤ nf0 + 256 ∧
      Sep (allI (CkItems b bm bf ba 0 (mapD []) Af0 nf0 cf0 xs0 Aw nw cw Ar nr cr)).fp w w' [allI (CkItems b bm bf ba pre.length (mapD pre) Af nf cf (xs0 ++ fieldsOf ws pre) Aw nw cw Ar nr cr)] := by
  obtain ⟨F, hF⟩ : ∃ F, (allI (CkItems b bm bf ba 0 (mapD []) Af0 nf0 cf0 xs0 Aw nw cw Ar nr cr)).fp = F := ⟨_, rfl⟩
  have hS0 := Sep.start hs
  rw [hF] at hS0 hw ⊢
  have hw0 : Rd w (fun g => g < w.heap.size ∧ ¬ F g) 1 Aw nw (u64s ws) := hw.more (fun g hg hn => ⟨hg, hn⟩)
  have HWL := hide (show ws.length = nw by have := hw.1; simpa [u64s] using this)
  have HS0 := hide hS0
  clear hF hs hw hS0
  go_enter Try.func74, Try.ntmps74
  go_wp2_with fail
  go_loopw [5] (fun i wr => ∃ (at_ f : Nat) (pre : List (Nat × Nat)) (Af : Option Addr) (nf cf : Nat), at_ ≤ nw ∧ i = .int .i64 at_ ∧ Hid (parse nw ws 0 = (pre ++ (parse f ws at_).1, (parse f ws at_).2)) ∧ nw ≤ f + at_ ∧ pre.length ≤ at_ ∧ nf ≤ nf0 + at_ ∧
    Sep F w wr [allI (CkItems b bm bf ba pre.length (mapD pre) Af nf cf (xs0 ++ fieldsOf ws pre) Aw nw cw Ar nr cr)]) (fun i _ => nw - (intOf i).toNat)
  case atStart => exact ⟨0, nw, [], Af0, nf0, cf0, by omega, rfl, by simp [Hid], by omega, by simp, by omega, by simpa [fieldsOf] using HS0.out⟩
  case round =>
    clear HS0
    obtain ⟨at_, f, pre, Af, nf, cf, hat, rfl, HP, hf, hpl, hnfl, hS⟩ := hrel
    by_cases hlt : at_ < nw
    · have hkl : at_ < ws.length := by rw [HWL.out]; exact hlt
      obtain ⟨ad, hA, _, had, hc⟩ := (hw0.chg hS.bel (fun g hF hD => hD.2 hF)).at_ hlt
      have e0 := hc (.int .u64 ws[at_]) (by simp [u64s, List.getElem?_eq_getElem hkl])
      have hb := hws _ (List.getElem_mem hkl)
      have hgd : ws.getD at_ 0 = ws[at_] := by rw [List.getD_eq_getElem?_getD, List.getElem?_eq_getElem hkl]; rfl
      have HGD := hide hgd
      obtain ⟨x, hx⟩ : ∃ x, ws[at_] = x := ⟨_, rfl⟩
      rw [hx] at e0 hb HGD
      obtain ⟨b1, b2⟩ := hb
      rw [hA]
      have HA := hide hA
      clear hc hx hgd hA
      by_cases hok : unheadOK x
      · obtain ⟨len, hlen⟩ := Int.eq_ofNat_of_zero_le (show 0 ≤ hLen x by unfold hLen; omega)
        have hl4 : len ≤ 4 := by have := hok.1; omega
        have HLEN := hide hlen
        have C := fun w' => unheadP_ok w' x b1 b2 hok
        rw [hlen] at C
        have C1 := hide C
        have HOK := hide hok
        clear C hlen hok
        go_wp2_with fail
        refine (C1.out _).mono ?_
        rintro e w1 ⟨rfl, hb1⟩
        have hS1 := (hS.below hb1).blkAt 23 #[.int .i64 len, .bool (hMark x), .int .i64 (hAge x)] rfl
        by_cases hl : at_ + 1 + len ≤ nw
        · have k1 : decide ((nw : Int) - at_ ≤ len) = false := by simp; omega
          have HC := hide (check1_any _ (fun g => g < w.heap.size ∧ ¬ F g) b bm bf ba pre.length (mapD pre) Af nf cf (xs0 ++ fieldsOf ws pre) Aw nw cw Ar nr cr at_ len (hMark x) (hAge x) ws (hS1.get 0 rfl)
            (fun g hg hD => (hS1.lo 0 rfl g hg).elim hD.2 (fun h => by omega)) (hw0.chg hS1.bel (fun g hF hD => hD.2 hF)) hcw hcw2 hn (by omega) (by omega) hl)
          obtain ⟨f', hf', hps⟩ := parse_some (f := f) (len := len) hkl (by rw [HWL.out]; omega) (by rw [HGD.out]; exact HOK.out) (by rw [HGD.out]; exact HLEN.out) (by rw [HWL.out]; exact hl)
          have HPS := hide (show parse nw ws 0 = ((pre ++ [(at_, len)]) ++ (parse f' ws (at_ + 1 + len)).1, (parse f' ws (at_ + 1 + len)).2) by rw [HP.out, hps]; simp)
          have HF := hide hf'
          clear hS hps hf'
          go_wp2_with fail
          refine HC.out.mono ?_
          rintro e w3 ⟨Af', cf', rfl, hP⟩
          have hS3 := hS1.call 0 rfl hP
          obtain ⟨q1, q2, q3, q4⟩ := hS3.rules 1 (g := w1.heap.size) (t := 23) rfl
          have q5 : w3.cell? ⟨w1.heap.size, 0, none⟩ = some (.int .i64 len) := by rw [q1]; rfl
          have hS4 := hS3.sub (l := [allI (CkItems b bm bf ba (pre.length + 1) ((mapD pre).put (.int .i64 at_) (.lit (.int .i64 len))) Af' (nf + len) cf' (xs0 ++ fieldsOf ws pre ++ (ws.drop (at_ + 1)).take len) Aw nw cw Ar nr cr)]) (by simp)
          clear q1 hS1 hS3 hP HC
          go_wp2_with fail
          go_roundw
          case rel =>
            refine ⟨at_ + 1 + len, f', pre ++ [(at_, len)], Af', nf + len, cf', by omega, by go_num, HPS.out, ?_, by simp; omega, by omega, ?_⟩
            · have h9 := HF.out; rw [HWL.out] at h9; exact h9
            · rw [mapD_snoc, fieldsOf_snoc, ← List.append_assoc, List.length_append, ← HA.out]
              exact hS4
          case measure => simp [intOf]; omega
        · have k1 : decide ((nw : Int) - at_ ≤ len) = true := by simp; omega
          have hpn := parse_none (f := f) hkl (by rw [HWL.out]; omega) (by rw [HGD.out, HLEN.out, HWL.out]; omega)
          have HR := hide (show (parse nw ws 0).2 = false by rw [HP.out, hpn])
          have hS2 := hS1.sub (l := [allI (CkItems b bm bf ba pre.length (mapD pre) Af nf cf (xs0 ++ fieldsOf ws pre) Aw nw cw Ar nr cr)]) (by simp)
          clear hS hpn
          go_wp2_with fail
          go_ret
          exact ⟨pre, Af, nf, cf, by rw [HR.out] <;> rfl, (fun h => by rw [HR.out] at h; cases h), by omega, hS2⟩
      · have C1 := hide (fun w' => unheadP_bad w' x b1 b2 hok)
        have hpn := parse_none (f := f) hkl (by rw [HWL.out]; omega) (by rw [HGD.out]; exact fun h => hok h.1)
        have HR := hide (show (parse nw ws 0).2 = false by rw [HP.out, hpn])
        clear hok hpn
        go_wp2_with fail
        refine (C1.out _).mono ?_
        rintro e w1 ⟨rfl, hb1⟩
        have hS1 := (hS.below hb1)
        go_wp2_with fail
        go_ret
        exact ⟨pre, Af, nf, cf, by rw [HR.out] <;> rfl, (fun h => by rw [HR.out] at h; cases h), by omega, hS1.alloc _⟩
    · obtain rfl : at_ = nw := by omega
      have hpe : parse f ws at_ = ([], true) := by have := parse_end (f := f) (ws := ws); rw [HWL.out] at this; exact this
      have HR := hide (show parse at_ ws 0 = (pre, true) by rw [HP.out, hpe]; simp)
      clear hpe
      go_wp2_with fail
      go_ret
      exact ⟨pre, Af, nf, cf, by rw [HR.out] <;> rfl, (fun _ => by rw [HR.out]), by omega, hS⟩
end Go.Proofs.Ytpbafmdebflbpaa
