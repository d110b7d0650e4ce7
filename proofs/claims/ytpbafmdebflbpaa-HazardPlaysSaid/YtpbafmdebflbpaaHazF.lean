/- hazard: Play. -/
import Derived.Test.YtpbafmdebflbpaaHazP
namespace Go.Proofs.Ytpbafmdebflbpaa
open Go.RowKit

def deeds (l : List Deed) : List Value := l.flatMap fun d => [.int .i64 d.1, .int .i64 d.2.1, .int .i64 d.2.2]
theorem deeds_length (l : List Deed) : (deeds l).length = l.length * 3 := by
  unfold deeds; induction l with
  | nil => rfl
  | cons a l ih => simp [List.flatMap_cons] at ih ⊢; omega
theorem deeds_at (l : List Deed) (k : Nat) (h : k < l.length) : (deeds l)[k * 3]? = some (.int .i64 l[k].1) ∧ (deeds l)[k * 3 + (0 + 1)]? = some (.int .i64 l[k].2.1) ∧ (deeds l)[k * 3 + (1 + 1)]? = some (.int .i64 l[k].2.2) := by
  unfold deeds
  induction l generalizing k with
  | nil => simp at h
  | cons a l ih =>
    cases k with
    | zero => exact ⟨rfl, rfl, rfl⟩
    | succ k =>
      have h' : k < l.length := by simpa using h
      have := ih k h'
      simp only [List.flatMap_cons]
      rw [show (k + 1) * 3 = k * 3 + 3 from by omega]
      simpa [Nat.add_right_comm _ 3] using this

def FreeingRd (w0 w : World) (v : Value) (codes : List Int) (freed : List (Int × Int)) (waits : List Int) : Prop :=
  ∃ A1 n1 c1 A2 n2 c2 A3 n3 c3, v = .agg #[.slice A1 n1 c1, .slice A2 n2 c2, .slice A3 n3 c3] ∧ Rd w (fun g => w0.heap.size ≤ g) 1 A1 n1 (ints codes) ∧ Rd w (fun g => w0.heap.size ≤ g) 2 A2 n2 (fates freed) ∧ Rd w (fun g => w0.heap.size ≤ g) 1 A3 n3 (ints waits)

section
variable {F : Nat → Prop} {W w : World} {s : Hz} {x : Item}
theorem Hz.set0 (s : Hz) (A : Option Addr) (n c : Nat) (l : List Th) : s.cells.setIfInBounds 0 (.slice A n c) = Hz.cells { s with At := A, nt := n, ct := c, ths := l } := by
  unfold Hz.cells
  rw [← Array.toList_inj]
  simp
theorem Hz.addTh {A : Option Addr} {n c g : Nat} (h : Sep F W w ((x :: s.items ++ [blkI g 100 #[.int .i64 (-1), .slice none 0 0]]).set 2 (rowI 98 1 A n c (s.ths.map Th.ptr ++ [.pointer (some ⟨g, 0, none⟩)])))) :
    Sep F W (w.setCell ⟨s.gw, 0, none⟩ (.slice A n c)) (x :: Hz.items { s with At := A, nt := n, ct := c, ths := s.ths ++ [⟨g, -1, none, 0, 0, []⟩] }) := by
  have h3 := h.set_ 1 (g := s.gw) (t := 97) (cs := s.cells) rfl 0 (.slice A n c)
  rw [Hz.set0 s A n c (s.ths ++ [⟨g, -1, none, 0, 0, []⟩])] at h3
  have h4 : Sep F W (w.setCell ⟨s.gw, 0, none⟩ (.slice A n c)) ((x :: blkI s.gw 97 (Hz.cells { s with At := A, nt := n, ct := c, ths := s.ths ++ [⟨g, -1, none, 0, 0, []⟩] }) :: rowI 98 1 A n c (s.ths.map Th.ptr ++ [.pointer (some ⟨g, 0, none⟩)]) :: rowI 105 2 s.Af s.nf s.cf (fates s.freed) :: s.ths.map Th.item) ++ [blkI g 100 #[.int .i64 (-1), .slice none 0 0]]) := h3
  have h5 := ((h4.perm (List.perm_append_singleton _ _)).nilRow0 3 1).perm (.swap _ _ _)
  have h6 := (Sep.join (l := [_, _]) h5).perm (List.perm_append_singleton _ _).symm
  refine h6.perm ?_
  unfold Hz.items
  simp only [List.map_append, List.map_cons, List.map_nil, List.cons_append]
  exact .refl _
end

theorem sTh : SliceT Try.prog 94 98 1 8 := SliceT.mk_ Try.underlying94 (z := .pointer none) (by kernel_rfl) rfl (by omega)

set_option maxHeartbeats 400000 in
theorem hzplay_bad (w : World) (threads : Int) (A : Option Addr) (n c : Nat) (h : threads < 1 ∨ 4 < threads ∨ 100 < n) (hn : n ≤ 9223372036854775807) :
    Calls Try.prog 22 #[.int .i64 threads, .slice A n c] w fun e w' => e = .returned (.tuple #[.agg #[.slice none 0 0, .slice none 0 0, .slice none 0 0], .int .i64 (if threads < 1 ∨ 4 < threads then 3 else 1)]) ∧ Below w.heap.size w w' := by
  rcases (show threads < 1 ∨ (¬ threads < 1 ∧ 4 < threads) ∨ (¬ threads < 1 ∧ ¬ 4 < threads ∧ 100 < n) by omega) with h1 | ⟨h1, h2⟩ | ⟨h1, h2, h3⟩
  · rw [if_pos (by omega)]
    go_enter Try.func22, Try.ntmps22
    go_wp2_with fail
    refine bodyPost_ret (v := .tuple #[.agg #[.slice none 0 0, .slice none 0 0, .slice none 0 0], .int .i64 3]) (by simp [results, Try.results22, go_sem]) rfl ⟨rfl, (by repeat (first | with_reducible exact Below.refl _ _ | with_reducible (refine Below.setCell ?_ (by first | omega | (simp; done) | (simp; omega)) _) | with_reducible (refine Below.alloc ?_ (by first | omega | (simp; done) | (simp; omega)) _) | with_reducible refine Below.drew ?_ | with_reducible refine below_drewN ?_ _))⟩
  · rw [if_pos (by omega)]
    go_enter Try.func22, Try.ntmps22
    go_wp2_with fail
    refine bodyPost_ret (v := .tuple #[.agg #[.slice none 0 0, .slice none 0 0, .slice none 0 0], .int .i64 3]) (by simp [results, Try.results22, go_sem]) rfl ⟨rfl, (by repeat (first | with_reducible exact Below.refl _ _ | with_reducible (refine Below.setCell ?_ (by first | omega | (simp; done) | (simp; omega)) _) | with_reducible (refine Below.alloc ?_ (by first | omega | (simp; done) | (simp; omega)) _) | with_reducible refine Below.drew ?_ | with_reducible refine below_drewN ?_ _))⟩
  · rw [if_neg (by omega)]
    clear h
    go_enter Try.func22, Try.ntmps22
    go_wp2_with fail
    refine bodyPost_ret (v := .tuple #[.agg #[.slice none 0 0, .slice none 0 0, .slice none 0 0], .int .i64 1]) (by simp [results, Try.results22, go_sem]) rfl ⟨rfl, (by repeat (first | with_reducible exact Below.refl _ _ | with_reducible (refine Below.setCell ?_ (by first | omega | (simp; done) | (simp; omega)) _) | with_reducible (refine Below.alloc ?_ (by first | omega | (simp; done) | (simp; omega)) _) | with_reducible refine Below.drew ?_ | with_reducible refine below_drewN ?_ _))⟩

set_option maxRecDepth 100000 in
set_option maxHeartbeats 800000 in
theorem hzplay_ok (w : World) (N : Nat) (A : Option Addr) (n c : Nat) (l : List Deed) (h1 : 1 ≤ N) (h2 : N ≤ 4) (h3 : n ≤ 100) (hl : Rd w (fun _ => True) 3 A n (deeds l)) :
    Calls Try.prog 22 #[.int .i64 N, .slice A n c] w fun e w' => ∃ v, e = .returned (.tuple #[v, .int .i64 0]) ∧ Below w.heap.size w w' ∧
      FreeingRd w w' v (HM.at (HM.start N) l n).1 (HM.at (HM.start N) l n).2.freed ((HM.at (HM.start N) l n).2.ths.flatMap Prod.snd) := by
  go_enter Try.func22, Try.ntmps22
  go_wp2_with fail
  go_loopw [26] (fun i wr => ∃ (k : Nat) (s : Hz), k ≤ N ∧ i = .int .i64 k ∧ s.gw = w.heap.size + 1 ∧ s.gone = List.replicate 100 false ∧ s.freed = [] ∧ s.ths.map (fun t => (t.gd, t.ws)) = List.replicate k (-1, []) ∧
      Sep No w wr (blkI w.heap.size 42 #[.slice none 0 0, .slice none 0 0, .slice none 0 0] :: s.items)) (fun i _ => N - (intOf i).toNat)
  case atStart => exact ⟨0, ⟨w.heap.size + 1, none, 0, 0, none, 0, 0, List.replicate 100 false, [], []⟩, by omega, rfl, rfl, rfl, rfl, rfl, by
    have h5 := ((((Sep.nil No w).blkAt 42 #[.slice none 0 0, .slice none 0 0, .slice none 0 0] rfl).blkAt 97 Try.zeroCells97 (g := w.heap.size + 1) (by simp)).nilRow 98 1).nilRow 105 2
    exact h5⟩
  case round =>
    obtain ⟨k, s, hk, rfl, hgw, hgone, hfr, hths, hS⟩ := hrel
    have hg : s.gone.length = 100 := by rw [hgone]; simp
    obtain ⟨f1, f2, f3, f4, f5, f6, f7, f8⟩ := Hz.facts (l := [_]) hS hg
    have hnt : s.nt = k := by
      have e1 := f6.1
      have e2 := congrArg List.length hths
      simp at e1 e2
      omega
    have HT := hide hths
    have HG := hide hgone
    have HF := hide hfr
    have HN := hide hnt
    have hnt' : s.nt ≤ 4 := by omega
    clear f1 f3 f6 f7 f8 hths hgone hfr hnt
    rw [hgw] at f2 f4 f5
    by_cases hlt : k < N
    · have hSb := fun o => hS.blkAt 100 o rfl
      go_wp2_with (first
        | (at_builtin
           refine wpList_app1 rfl (.tmp 32) (.tmp 35) 94 rfl sTh (hSb _) 2 (n := s.nt) rfl rfl rfl (by simp) rfl rfl (by omega) ?_
           intro A2 c2 w2 hS2 hC2
           obtain ⟨g1, g2, g3⟩ := hS2.rules 1 (g := s.gw) (t := 97) (cs := s.cells) rfl
           (have g0 : w2.cell? ⟨w.heap.size + 1, 0, none⟩ = some (.slice s.At s.nt s.ct) := by rw [← hgw, g1]; exact Hz.c0 s)
           (have g4 : ∀ i, w2.frozen? ⟨w.heap.size + 1, i, none⟩ = false := by rw [← hgw]; exact g2)
           clear g1 g2))
      go_roundw
      case rel =>
        refine ⟨k + 1, { s with At := A2, nt := s.nt + 1, ct := c2, ths := s.ths ++ [⟨wr.heap.size, -1, none, 0, 0, []⟩] }, by omega, by go_num, hgw, HG.out, HF.out, ?_, ?_⟩
        · simp only [List.map_append, HT.out, List.map_cons, List.map_nil]; exact (List.replicate_succ' ..).symm
        · rw [← hgw]; exact Hz.addTh hS2
      case measure => simp [intOf]; omega
    · obtain rfl : k = N := by omega
      obtain ⟨wo, rfl⟩ : ∃ wo : World, wo = wr := ⟨_, rfl⟩
      have hS2 : Sep No w wo (s.item :: [blkI w.heap.size 42 #[.slice none 0 0, .slice none 0 0, .slice none 0 0]]) :=
        Sep.join (l := s.items) (hS.perm (List.perm_append_singleton _ _).symm)
      have hS3 : ∀ o, Sep No w (wo.alloc (.cells o 42)) [s.item, blkI w.heap.size 42 #[.slice none 0 0, .slice none 0 0, .slice none 0 0], blkI wo.heap.size 42 o, rowI 25 1 none 0 0 []] :=
        fun o => (hS2.blkAt 42 o rfl).nilRow 25 1
      have HS3 := hide hS3
      have hab : s.abs = HM.start k := by unfold Hz.abs HM.start; rw [HG.out, HF.out, HT.out]
      have HAB := hide hab
      clear hS hS2 hS3 f2 f4 f5 hab
      go_wp2_with fail
      go_loopw [42] (fun i w2 => ∃ (q : Nat) (s2 : Hz) (Ac : Option Addr) (nc cc : Nat), q ≤ n ∧ i = .int .i64 q ∧ s2.gw = w.heap.size + 1 ∧ s2.abs = (HM.at (HM.start k) l q).2 ∧ nc = q ∧
        Sep No w w2 [s2.item, blkI w.heap.size 42 #[.slice none 0 0, .slice none 0 0, .slice none 0 0], blkI wo.heap.size 42 #[.slice Ac nc cc, .slice none 0 0, .slice none 0 0], rowI 25 1 Ac nc cc (ints (HM.at (HM.start k) l q).1)]) (fun i _ => n - (intOf i).toNat)
      case atStart => exact ⟨0, s, none, 0, 0, by omega, rfl, hgw, HAB.out, rfl, HS3.out _⟩
      case round =>
        clear HS3 HAB HN HF HG HT
        obtain ⟨q, s2, Ac, nc, cc, hq, rfl, hgw2, hab2, rfl, hS⟩ := hrel
        obtain ⟨p1, p2, p3, p4⟩ := hS.rules 2 (g := wo.heap.size) (t := 42) rfl
        have hlen : l.length = n := by have := hl.1; rw [deeds_length] at this; omega
        have HL := hide hlen
        have HAB := hide hab2
        clear hlen hab2
        by_cases hlt2 : nc < n
        · obtain ⟨ad, hA, _, had, hc, hd⟩ := (hl.below hS.below_).atN hlt2
          have hql : nc < l.length := by rw [HL.out]; exact hlt2
          obtain ⟨f0, f1, f2⟩ := deeds_at l nc hql
          have e0 := hc _ f0
          have e1 := hd 0 _ f1
          have e2 := hd 1 _ f2
          clear hc hd f0 f1 f2
          subst hA
          have hok := HM.at_ok k l nc
          rw [← HAB.out] at hok
          have o1 : s2.gone.length = 100 := hok.1
          have o2 : s2.ths.length = k := by have := hok.2.1; simpa [Hz.abs] using this
          have o3 : s2.freed.length + wsum (s2.ths.map fun t => (t.gd, t.ws)) ≤ nc := hok.2.2.1
          have o4 : ∀ t ∈ s2.ths, t.ws.length ≤ 5000 := fun t ht => by
            have := mem_wsum (s2.ths.map fun t => (t.gd, t.ws)) (t.gd, t.ws) (List.mem_map.2 ⟨t, ht, rfl⟩)
            simp only at this
            omega
          have O2 := hide o2
          have O1 := hide o1
          clear o1 o2 hok
          go_wp2_with fail
          go_region_law (first
            | (refine step_app1 (cs := #[.int .i64 (s2.abs.does l[nc].1 l[nc].2.1 l[nc].2.2 nc).1]) rfl (.tmp 48) (.tmp 53) 38 rfl sErr hS3 3 (n := nc) rfl rfl rfl (by simp) rfl rfl (by omega) ?_
               intro A4 c4 w4 hS4 hC4
               obtain ⟨z1, z2, z3⟩ := hS4.rules 2 (g := wo.heap.size) (t := 42) rfl)
            | (go_simp
               go_at_call 55
               rw [← hgw2]
               refine (does_any _ s2 l[nc].1 l[nc].2.1 l[nc].2.2 nc (((hS.alloc _).drew).get 0 rfl) O1.out (by rw [O2.out]; omega) (by omega) o4).mono ?_
               rintro e w3 ⟨s3, rfl, hab3, hS3', hgw3⟩
               have hS3 := ((hS.alloc _).drew).call 0 rfl hS3'
               obtain ⟨y1, y2, y3⟩ := hS3.rules 2 (g := wo.heap.size) (t := 42) rfl))
          all_goals
            go_wp2_with fail
            go_roundw
            case rel =>
              have hgd : l.getD nc (0, 0, 0) = l[nc] := by rw [List.getD_eq_getElem?_getD, List.getElem?_eq_getElem hql]; rfl
              refine ⟨nc + 1, s3, A4, nc + 1, c4, by omega, by go_num, hgw3.trans hgw2, ?_, rfl, ?_⟩
              · rw [hab3, HAB.out]; simp only [HM.at, hgd]
              · have h5 := hS4.set_ 2 (g := wo.heap.size) (t := 42) rfl 0 (.slice A4 (nc + 1) c4)
                have e5 : ints (HM.at (HM.start k) l (nc + 1)).1 = ints (HM.at (HM.start k) l nc).1 ++ [.int .i64 (s2.abs.does l[nc].1 l[nc].2.1 l[nc].2.2 nc).1] := by
                  rw [HAB.out]; simp only [HM.at, hgd, ints, List.map_append, List.map_cons, List.map_nil]
                rw [e5]
                exact h5
            case measure => simp [intOf]; omega
        · obtain rfl : nc = n := by omega
          have hok := HM.at_ok k l nc
          rw [← HAB.out] at hok
          have o1 : s2.gone.length = 100 := hok.1
          have o2 : s2.ths.length = k := by have := hok.2.1; simpa [Hz.abs] using this
          have o3 : s2.freed.length + wsum (s2.ths.map fun t => (t.gd, t.ws)) ≤ nc := hok.2.2.1
          have hS6 : Sep No w wr ([blkI w.heap.size 42 #[.slice none 0 0, .slice none 0 0, .slice none 0 0], blkI wo.heap.size 42 #[.slice Ac nc cc, .slice none 0 0, .slice none 0 0], rowI 25 1 Ac nc cc (ints (HM.at (HM.start k) l nc).1)] ++ s2.items) :=
            (Sep.split hS).perm List.perm_append_comm
          obtain ⟨f1, f2, f3, f4, f5, f6, f7, f8⟩ := Hz.facts hS6 o1
          rw [hgw2] at f2 f3 f4 f5
          have hnt : s2.nt = k := by have := f6.1; simp at this; omega
          rw [hnt] at f2
          have hS7 : Sep No w (wr.setCell ⟨wo.heap.size, 1, none⟩ (.slice s2.Af s2.nf s2.cf)) (rowI 3 1 none 0 0 [] :: blkI w.heap.size 42 #[.slice none 0 0, .slice none 0 0, .slice none 0 0] :: blkI wo.heap.size 42 #[.slice Ac nc cc, .slice s2.Af s2.nf s2.cf, .slice none 0 0] :: rowI 25 1 Ac nc cc (ints (HM.at (HM.start k) l nc).1) :: s2.items) :=
            (hS6.set_ 1 (g := wo.heap.size) (t := 42) rfl 1 (.slice s2.Af s2.nf s2.cf)).nilRow0 3 1
          have hne : wo.heap.size ≠ w.heap.size + 1 := by
            have h9 := f1.ne_ (g' := wo.heap.size) (hS6.get 1 rfl) (by decide)
            omega
          have x1 : ∀ (W : World) (i o : Nat) (v : Value), (W.setCell ⟨wo.heap.size, i, none⟩ v).cell? ⟨w.heap.size + 1, o, none⟩ = W.cell? ⟨w.heap.size + 1, o, none⟩ := fun W i o v => World.cell?_setCell_other W _ _ v (fun e => hne (congrArg Addr.block e))
          have HNT := hide hnt
          clear f1 f6 f7 f8 hnt
          go_wp2_with fail
          have hlens := Hz.lens (s := s2) (hS.get 0 rfl)
          have o4 : ∀ t ∈ s2.ths, t.n ≤ 100 := fun t ht => by
            have h8 := mem_wsum (s2.ths.map fun t => (t.gd, t.ws)) (t.gd, t.ws) (List.mem_map.2 ⟨t, ht, rfl⟩)
            have h9 := hlens.2.2 t ht
            simp only at h8
            omega
          have hnf : s2.nf ≤ 100 := by have := hlens.2.1; omega
          have O1 := hide o1
          have O2 := hide o2
          clear hlens o1 o2 hok p1 p2 p3 p4 f2 f3 f4 f5
          go_loopw [67] (fun i w3 => ∃ (q : Nat) (Aw : Option Addr) (nw cw : Nat), q ≤ k ∧ i = .int .i64 q ∧ nw ≤ q * 100 ∧
            Sep No w w3 (rowI 3 1 Aw nw cw (ints ((s2.ths.take q).flatMap Th.ws)) :: blkI w.heap.size 42 #[.slice none 0 0, .slice none 0 0, .slice none 0 0] :: blkI wo.heap.size 42 #[.slice Ac nc cc, .slice s2.Af s2.nf s2.cf, .slice Aw nw cw] :: rowI 25 1 Ac nc cc (ints (HM.at (HM.start k) l nc).1) :: s2.items)) (fun i _ => k - (intOf i).toNat)
          case atStart => exact ⟨0, none, 0, 0, by omega, rfl, by omega, hS7⟩
          case round =>
            clear hS7 hS6 hS
            obtain ⟨q, Aw, nw, cw, hqk, rfl, hnw, hS⟩ := hrel
            obtain ⟨f1, f2, f3, f4, f5, f6, f7, f8⟩ := Hz.facts (l := [_, _, _, _]) hS O1.out
            obtain ⟨p1, p2, p3, p4⟩ := hS.rules 2 (g := wo.heap.size) (t := 42) rfl
            by_cases hlt3 : q < k
            · have hql : q < s2.ths.length := by rw [O2.out]; exact hlt3
              obtain ⟨ad, hA, _, had, hc⟩ := f6.at_ (k := q) (by rw [HNT.out]; exact hlt3)
              have hcell := hc s2.ths[q].ptr (by simp [List.getElem?_eq_getElem hql])
              have htm : s2.ths[q] ∈ s2.ths := List.getElem_mem hql
              obtain ⟨y1, y2, y3⟩ := (f7 _ htm).rules
              unfold Th.cells at y1
              have hR := f8 _ htm
              have hq4 := o4 _ htm
              rw [hA]
              have HA := hide hA
              clear hA hc f1 f2 f3 f4 f5 f6 f7 f8
              go_wp2_with fail
              go_region_law (first
                | (refine step_app rfl (.tmp 72) (.tmp 76) 40 rfl sInt hS.drew 0 (n := nw) rfl rfl rfl (hR.below (Below.refl _ _).drew) (by simp [ints, Value.oneCell']) (by omega) ?_
                   intro A4 c4 w4 hS4 hC4
                   obtain ⟨z1, z2, z3⟩ := hS4.rules 2 (g := wo.heap.size) (t := 42) rfl))
              all_goals
                go_wp2_with fail
                go_roundw
                case rel =>
                  refine ⟨q + 1, A4, nw + s2.ths[q].n, c4, by omega, by go_num, by omega, ?_⟩
                  have h5 := hS4.set_ 2 (g := wo.heap.size) (t := 42) rfl 2 (.slice A4 (nw + s2.ths[q].n) c4)
                  rw [List.take_succ_eq_append_getElem hql, List.flatMap_append, List.flatMap_cons, List.flatMap_nil, List.append_nil, ints, List.map_append]
                  exact h5
                case measure => simp [intOf]; omega
            · obtain rfl : q = k := by omega
              have hall : s2.ths.take q = s2.ths := List.take_of_length_le (by rw [O2.out]; omega)
              rw [hall] at hS
              obtain ⟨y1, y2, y3, y4⟩ := hS.rules 1 (g := w.heap.size) (t := 42) rfl
              clear f1 f2 f3 f4 f5 f6 f7 f8
              go_wp2_with fail
              have hF := ((hS.set_ 1 (g := w.heap.size) (t := 42) rfl 0 (.slice Ac nc cc)).set_ 1 (g := w.heap.size) (t := 42) rfl 1 (.slice s2.Af s2.nf s2.cf)).set_ 1 (g := w.heap.size) (t := 42) rfl 2 (.slice Aw nw cw)
              refine bodyPost_ret (v := .tuple #[.agg #[.slice Ac nc cc, .slice s2.Af s2.nf s2.cf, .slice Aw nw cw], .int .i64 0]) (by simp [results, Try.results22, go_sem, y1]) rfl ⟨_, rfl, ?_, ?_⟩
              · exact hF.below_
              · rw [← HAB.out]
                have e6 : s2.abs.ths.flatMap Prod.snd = s2.ths.flatMap Th.ws := by simp [Hz.abs, List.flatMap_map]
                rw [e6]
                exact ⟨_, _, _, _, _, _, _, _, _, rfl, hF.rd 3 rfl, hF.rd 6 rfl, hF.rd 0 rfl⟩
end Go.Proofs.Ytpbafmdebflbpaa
