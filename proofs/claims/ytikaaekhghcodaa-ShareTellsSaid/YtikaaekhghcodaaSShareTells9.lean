/- Share: how long the shortest way is that tells each two apart. Share: the program's way that tells two apart. -/
import Derived.Laws.EntriesVeiled
import Derived.Sort.LoopGhostIn
import Derived.Maps.OwnIn
import Derived.StillTailTactics
import Derived.RangeFuncCalls
import Derived.OrdersIn
import Derived.TacticsInMore
import Derived.OwnWalkIn
import Derived.Test.YtikaaekhghcodaaSShareTells8
import Derived.Test.YtikaaekhghcodaaSShareTells5
import Derived.Deep.RegionLaw
import Derived.WalkMore
import Derived.Deep.DeepCutAuto
import Derived.Deep.CutBlock
import Derived.Deep.LoopGhost
set_option linter.unusedSimpArgs false
set_option linter.unusedVariables false
namespace Go.Proofs.Ytikaaekhghcodaa
open Go.RowKit Go.Shelf
attribute [local go_sem] Oper.semAt_some
theorem sPr : SliceT Try.prog 67 44 2 16 := SliceT.mk_ Try.underlying67 (z := .agg #[.int .i64 0, .int .i64 0]) (by kernel_rfl) rfl (by omega)
def prs (l : List Pr) : List Value := l.flatMap fun p => [.int .i64 (p.1 : Int), .int .i64 (p.2 : Int)]
theorem prs_snoc (l : List Pr) (p : Pr) : prs (l ++ [p]) = prs l ++ (#[.int .i64 (p.1 : Int), .int .i64 (p.2 : Int)] : Array Value).toList := by
  unfold prs
  rw [List.flatMap_append]
  simp
theorem prs_at (l : List Pr) (k : Nat) (h : k < l.length) : (prs l)[k * 2]? = some (.int .i64 (l[k].1 : Int)) ∧ (prs l)[k * 2 + 1]? = some (.int .i64 (l[k].2 : Int)) := by
  unfold prs
  induction l generalizing k with
  | nil => simp at h
  | cons a l ih =>
    cases k with
    | zero => exact ⟨rfl, rfl⟩
    | succ k =>
      have h' : k < l.length := by simpa using h
      have := ih k h'
      simp only [List.flatMap_cons]
      rw [show (k + 1) * 2 = k * 2 + 2 from by omega]
      simpa [Nat.add_right_comm _ 2] using this
theorem own_addrP {w : World} {b e size n c : Nat} {A : Option Addr} {xs : List Value} (h : w.ownsRow b e size (.slice A n c) n xs) (hn : 0 < n) : ∃ g, A = some ⟨g, 0, none⟩ := by
  rcases h.2 with ⟨hv, _⟩ | ⟨g, cap, cur, hv, _⟩
  · injection hv with _ h1 _; omega
  · injection hv with h1 _ _; exact ⟨g, h1⟩
structure FpS where
  A : Option Addr
  nl : Nat
  cl : Nat
  l : List Pr
def fpIt (Bf : Nat) (s : FpS) : Item := allI [rowI 44 2 s.A s.nl s.cl (prs s.l), blkI Bf 67 #[.slice s.A s.nl s.cl]]
theorem fpIt_tame (B Bf : Nat) (s : FpS) : Tame B (fpIt Bf s) := Tame.all fun i hi => by
  simp only [List.mem_cons, List.not_mem_nil, or_false] at hi
  rcases hi with rfl | rfl
  · exact Tame.row _ _ _ _ _ _ _
  · exact Tame.blk _ _ _ _
/-- A map of how far each two are from being told apart. -/
def ApR (gs : List (List Val)) (nO : Nat) (w : World) : Ending → World → Prop := fun e w' => ∃ b N n, e = .returned (.map (some b)) ∧ Sep No w w' [pmI b N (knD gs nO n)] ∧ n ≤ 577 ∧ ∀ p : Pr, p.1 < nO ∧ p.2 < nO → kn gs (n + 1) p = kn gs n p
theorem perm_ap2 {α : Type} (a b c d e f : α) : [a, b, c, d, e, f].Perm [f, e, a, b, c, d] := by
  classical
  rw [List.perm_iff_count]
  intro x
  simp only [List.count_cons, List.count_nil]
  omega
theorem fpIt_same {Bf : Nat} {s s' : FpS} {W : World} (h : (fpIt Bf s).P W) (h' : (fpIt Bf s').P W) (k : Nat) (hk : (fpIt Bf s').fp k) : (fpIt Bf s).fp k := by
  have b1 : Blk W Bf 67 #[.slice s.A s.nl s.cl] := h.1 (blkI Bf 67 #[.slice s.A s.nl s.cl]) (by simp)
  have b2 : Blk W Bf 67 #[.slice s'.A s'.nl s'.cl] := h'.1 (blkI Bf 67 #[.slice s'.A s'.nl s'.cl]) (by simp)
  have b3 := b1.symm.trans b2
  injection b3 with b3
  injection b3 with b3
  have b4 : Value.slice s.A s.nl s.cl = .slice s'.A s'.nl s'.cl := by simpa using b3
  obtain ⟨i, hi, hik⟩ := hk
  simp only [List.mem_cons, List.not_mem_nil, or_false] at hi
  rcases hi with rfl | rfl
  · refine ⟨rowI 44 2 s.A s.nl s.cl (prs s.l), by simp, ?_⟩
    have h1 : (Value.slice s'.A s'.nl s'.cl).ownBlock = some k := hik
    show (Value.slice s.A s.nl s.cl).ownBlock = some k
    rw [b4]
    exact h1
  · exact ⟨blkI Bf 67 #[.slice s.A s.nl s.cl], by simp, hik⟩
/-- One item turns, and something new is there. -/
theorem Sep.call2 {F : Nat → Prop} {W w w' : World} {i i' j : Item} {l : List Item} (h : Sep F W w (i :: l)) (h2 : Sep i.fp w w' [i', j]) (hj : ∀ k, j.fp k → w.heap.size ≤ k) : Sep F W w' (i' :: l ++ [j]) := by
  have h3 : Sep F W w' (i' :: l) := h.call 0 rfl (h2.sub (l := [i']) (by simp))
  refine h3.snoc j (h2.all j (by simp)) (fun g hg => .inr (Nat.le_trans h.bel.size (hj g hg))) (fun x hx g hg hgx => ?_)
  rcases List.mem_cons.1 hx with rfl | hx
  · exact h2.other (a := 1) (b := 0) rfl rfl (by omega) g hg hgx
  · have := (x.dom w (h.all x (List.mem_cons_of_mem _ hx)) g hgx)
    have := hj g hg
    omega
set_option maxRecDepth 100000 in
set_option maxHeartbeats 2500000 in
theorem apart_any (w : World) (AO AR : Option Addr) (nO cO nR cR : Nat) (obs : List Ob) (roots : List Val) (ok : GOk nO nR obs roots) (hO : ObsRd w (fun _ => True) AO nO obs) :
    Calls Try.prog 13 #[.agg #[.slice AO nO cO, .slice AR nR cR]] w (ApR (obs.map Ob.fields) nO w) := by
  obtain ⟨gs, hgs⟩ : ∃ gs, obs.map Ob.fields = gs := ⟨_, rfl⟩
  rw [hgs]
  have hS0 := (((Sep.nil No w).blkAt 25 #[.slice AO nO cO, .slice AR nR cR] rfl).pmNew (g := w.heap.size + 1) (by simp)).blkAt 41 #[.map (some (w.heap.size + 1))] (g := w.heap.size + 2) (by simp)
  have hS1 := hS0.blkAt 3 #[.int .i64 1] (g := w.heap.size + 3) (by simp)
  have HS1 := hide hS1
  have HOK := hide ok
  have HOO := hide (hO.more (D' := fun g => g < w.heap.size) (fun g hg _ => hg))
  have HGS := hide hgs
  have HREF := hide (show RefOk gs nO from by rw [← hgs]; exact ok.vg)
  have hnO := ok.nO_
  clear hS0 hS1 ok hO hgs
  refine (callsIn_wide (n := 10)).1 ?_
  refine callsIn_of_wp_calm Try.func13 rfl trivial ?_ rfl
  simp only [Try.ntmps13, List.size_toArray, List.length_cons, List.length_nil, Nat.reduceAdd, Nat.reduceSub, Array.replicate_succ, Array.replicate_zero, List.push_toArray, List.append_toArray, List.nil_append, List.cons_append]
  have hmm := @run_makeMap Try.prog
  gi_wp2
  clear hmm
  have HD0 := hide (show (fun _ => none) = knD gs nO 0 from by funext p; unfold knD; split <;> rfl)
  have HTL := hide (Nat.le_trans (todo_len nO (fun _ => none)) (Nat.mul_le_mul hnO hnO))
  refine wpIn_loop_ghost_k (fun (g : Nat) (a' : Act) (w' : World) => ∃ (u5 u6 u7 u8 u9 u10 u13 u14 u15 u16 u17 u18 u19 u20 u21 u22 u23 u24 u25 u26 u27 u28 u29 u30 u31 u32 u33 u34 u35 u36 u37 u38 u39 u40 u41 u42 u43 u44 u45 : Value) (ds : List Deferred), (∃ (n Bn N : Nat), u5 = .pointer (some ⟨Bn, 0, none⟩) ∧ g = (todo nO (knD gs nO n)).length ∧ Hid (n + g ≤ 576) ∧ Hid (N + g ≤ 576) ∧ Hid (Colls (w.heap.size + 2) w' ds) ∧
      Sep No w w' [pmI (w.heap.size + 1) N (knD gs nO n), blkI w.heap.size 25 #[.slice AO nO cO, .slice AR nR cR], blkI (w.heap.size + 2) 41 #[.map (some (w.heap.size + 1))], blkI Bn 3 #[.int .i64 ((n + 1 : Nat) : Int)]]) ∧ a' = { tmps := #[.agg #[.slice AO nO cO, .slice AR nR cR], .pointer (some ⟨w.heap.size, 0, none⟩), .map none, .pointer (some ⟨w.heap.size + 1 + 1, 0, none⟩), .func (.func 26) #[] #[.pointer (some ⟨w.heap.size, 0, none⟩), .pointer (some ⟨w.heap.size + 1 + 1, 0, none⟩)], u5, u6, u7, u8, u9, u10, .map (some (w.heap.size + 1)), .func (.func 26) #[] #[.pointer (some ⟨w.heap.size, 0, none⟩), .pointer (some ⟨w.heap.size + 1 + 1, 0, none⟩)], u13, u14, u15, u16, u17, u18, u19, u20, u21, u22, u23, u24, u25, u26, u27, u28, u29, u30, u31, u32, u33, u34, u35, u36, u37, u38, u39, u40, u41, u42, u43, u44, u45], defers := ds }) (todo nO (fun _ => none)).length ?atStart ?round
  case atStart =>
    (repeat apply Exists.intro)
    refine ⟨⟨0, w.heap.size + 3, 0, rfl, by rw [HD0.out], ?_, ?_, ?_, ?_⟩, rfl⟩
    · show 0 + _ ≤ _
      have := HTL.out
      omega
    · show 0 + _ ≤ _
      have := HTL.out
      omega
    · exact trivial
    · rw [← HD0.out]
      exact HS1.out.perm (List.Perm.swap _ _ _)
  case round =>
    clear HS1
    rintro gk a' wv ⟨u5, u6, u7, u8, u9, u10, u13, u14, u15, u16, u17, u18, u19, u20, u21, u22, u23, u24, u25, u26, u27, u28, u29, u30, u31, u32, u33, u34, u35, u36, u37, u38, u39, u40, u41, u42, u43, u44, u45, ds, ⟨n, Bn, N, rfl, hgk, HN1, HN2, HCL, hS⟩, rfl⟩ J K hJ hK
    have hS2 := (((hS.blkAt 67 #[.slice none 0 0] (g := wv.heap.size) rfl).nilRow 44 2).perm (perm_ap2 _ _ _ _ _ _)).join (l := [_, _])
    have HS2 := hide hS2
    have HS := hide hS
    have HGK := hide hgk
    have HJ := hide hJ
    clear hS hgk hJ hS2
    gi_wp2
    have hS2 := HS2.out
    refine wpIn_allB (n := 10) rfl (by omega) trivial w.heap.size (w.heap.size + 2) (w.heap.size + 1) N (knD gs nO n) (by rfl) (by rfl) (fpIt wv.heap.size) ⟨none, 0, 0, []⟩ hnO (hS2.get 2 rfl) (hS2.get 3 rfl) (hS2.get 1 rfl)
      (hS2.other (a := 2) (b := 0) rfl rfl (by omega) _ rfl) (hS2.other (a := 3) (b := 0) rfl rfl (by omega) _ rfl) (hS2.other (a := 1) (b := 0) rfl rfl (by omega) _ rfl)
      (fun pre s => s.nl = s.l.length ∧ s.l = pre.filter (newB gs n)) (fun _ _ _ => False) (fun s => fpIt_tame _ _ s) ⟨rfl, rfl⟩ (hS2.get 0 rfl) (fun s s' W h h' => fpIt_same h h') ?a1 ?assign ?body ?done ?stop
    case assign =>
      intro l x W gb K hgb hK
      unfold prV
      gi_wp2
      exact hK
    case stop =>
      rintro Dd c pre s W hD hpre hF
      exact hF.elim
    case body =>
      rintro l pre x s gb W hgb hx hpre hlen ⟨hok, hl⟩ hP'
      have hSW := (hS2.call2 hP' (fun k hk => by rw [show k = gb from hk]; exact hgb))
      obtain ⟨x1, x2, x3⟩ := todo_mem.1 hx
      have HSW := hide hSW
      have HPW := hide hP'
      have HL := hide hl
      have HOK2 := hide hok
      have hln : s.nl ≤ 576 := by
        have h1 : s.l.length ≤ pre.length := by rw [hl]; exact List.length_filter_le _ _
        have := todo_len nO (knD gs nO n)
        have := Nat.mul_le_mul hnO hnO
        omega
      clear hSW hl hok hP' hx hpre hlen
      gi_wp2
      gi_loopw [17] (fun i wr => ∃ k : Nat, k ≤ 4 ∧ i = .int .i64 k ∧ Hid (∀ j, j < k → tlB gs (kn gs n) x j (n + 1) = false) ∧ Below W.heap.size W wr) (fun i _ => 4 - (intOf i).toNat)
      case atStart => exact ⟨0, by omega, rfl, fun j hj => by omega, Below.refl _ _⟩
      case round =>
        obtain ⟨k, hk, rfl, HNO, hB⟩ := hrel
        have hSr := HSW.out.below hB
        by_cases hk4 : k < 4
        · have t1 : decide ((k : Int) < 4) = true := by simp; omega
          have t2 : decide (k < 4) = true := by simp; omega
          obtain ⟨q1, q2, q3, q4⟩ := hSr.rules 2 (g := w.heap.size) (t := 25) rfl
          have q5 := q1 0
          have q6 := q1 1
          obtain ⟨m1, m2, m3, m4⟩ := hSr.rules 3 (g := w.heap.size + 2) (t := 41) rfl
          have m5 := m1 0
          obtain ⟨n1, n2, n3, n4⟩ := hSr.rules 4 (g := Bn) (t := 3) rfl
          have n5 := n1 0
          obtain ⟨p1, p2, p3, p4⟩ := hSr.rules 5 (g := gb) (t := 44) rfl
          have p5 := p1 0
          have p6 := p1 1
          have C := hide (tells_any wr AO AR nO cO nR cR obs ((HOO.out.below hSr.below_).more (fun _ _ _ => trivial)) HOK.out.fl HOK.out.vg (w.heap.size + 1) N (knD gs nO n) (hSr.get 1 rfl) x x1 x2 hnO k (n + 1) (by omega) (by have := HN1.out; omega))
          rw [HGS.out, tlB_knD HREF.out] at C
          obtain ⟨r, hr⟩ : ∃ r, tlB gs (kn gs n) x k (n + 1) = r := ⟨_, rfl⟩
          rw [hr] at C
          unfold prV at C
          have HR := hide hr
          have HSR := hide hSr
          have HB := hide hB
          clear hr hSr hB q1 q4 m1 m4 n1 n4 p1 p4
          have HPW2 := hide ((Sep.start (HPW.out.get 0 rfl)).flat.below HB.out)
          cases r with
          | true =>
            have HNB := hide (show newB gs n x = true from anyT_iff.2 ⟨k, hk4, HR.out⟩)
            clear HNO HR
            gi_wp2_with (first
              | (refine ⟨trivial, ?_⟩; gi_at_call 14; refine (CallsIn.inRound l (callsIn_wide.2 C.out)).mono ?_; rintro e w5 ⟨rfl, hb5⟩
                 (have HP5 := hide (HPW2.out.below hb5))
                 obtain ⟨z1, z2, z3, z4⟩ := HP5.out.rules 1 (g := wv.heap.size) (t := 67) rfl
                 (have z5 := z1 0)
                 obtain ⟨y1, y2, y3, y4⟩ := (HSR.out.below hb5).rules 5 (g := gb) (t := 44) rfl
                 (have y5 := y1 0)
                 (have y6 := y1 1)
                 clear z1 z4 y1 y4 hb5 C HPW2 HSR)
              | (gi_at_builtin
                 refine wpListIn_app1 (cs := #[.int .i64 (x.1 : Int), .int .i64 (x.2 : Int)]) rfl (.tmp 26) (.tmp 28) 67 rfl sPr HP5.out 0 rfl rfl rfl rfl rfl rfl (by omega) ?_
                 intro A' c' w6 hS6 hC6
                 obtain ⟨z1, z2, z3, z4⟩ := hS6.rules 1 (g := wv.heap.size) (t := 67) rfl
                 (have z5 := z1 0)
                 (have HS6 := hide hS6)
                 clear z1 z4 hS6 hC6))
            have hF := (HS6.out.set_ 1 (g := wv.heap.size) (t := 67) rfl 0 (.slice A' (s.nl + 1) c')).fold
            refine ⟨⟨A', s.nl + 1, c', s.l ++ [x]⟩, ⟨by simp [HOK2.out], by rw [HL.out, List.filter_append]; simp [HNB.out]⟩, ?_⟩
            unfold fpIt
            dsimp only
            rw [prs_snoc]
            exact hF
          | false =>
            have HNO2 := hide (show ∀ j, j < k + 1 → tlB gs (kn gs n) x j (n + 1) = false from fun j hj => by
              rcases Nat.lt_or_ge j k with h | h
              · exact HNO.out j h
              · obtain rfl : j = k := by omega
                exact HR.out)
            clear HNO HR
            gi_wp2_with (refine ⟨trivial, ?_⟩; gi_at_call 14; refine (CallsIn.inRound l (callsIn_wide.2 C.out)).mono ?_; rintro e w5 ⟨rfl, hb5⟩)
            go_roundw
            case rel => exact ⟨k + 1, by omega, by go_num, HNO2, HB.out.trans (hb5.mono HB.out.size)⟩
            case measure => simp [intOf]; omega
        · obtain rfl : k = 4 := by omega
          have HNB := hide (show newB gs n x = false from by
            cases h : newB gs n x with
            | false => rfl
            | true =>
              obtain ⟨j, hj, h2⟩ := anyT_iff.1 h
              rw [HNO.out j hj] at h2
              cases h2)
          have hF := ((Sep.start (HPW.out.get 0 rfl)).below hB)
          have HF := hide hF
          clear hF hSr hB HNO
          gi_wp2
          exact ⟨s, ⟨HOK2.out, by rw [HL.out, List.filter_append]; simp [HNB.out]⟩, HF.out⟩
    case done =>
      rintro Dd ⟨A, nl, cl, ls⟩ W hD ⟨hok, hl⟩ hP' _ hK9
      dsimp only at hok hl
      have hSW := (hS2.call 0 rfl hP').split
      have hszv : w.heap.size + 2 ≤ wv.heap.size := by
        have := HS.out.hi 2 rfl (w.heap.size + 2) rfl
        omega
      have hkf : KeepsFrom (w.heap.size + 2) wv W := ((KeepsOthers.alloc wv (.cells #[.slice none 0 0] 67)).from _).trans (hP'.bel.keepsFrom (fun k o hk ho hc => (fpIt_tame (w.heap.size + 2) _ _).far (hS2.get 0 rfl) hk ho hc))
      have hsz9 : (wv.alloc (.cells #[.slice none 0 0] 67)).heap.size = wv.heap.size + 1 := by simp
      have hCL2 := HCL.out.push hkf.same hszv (by omega) hK9
      obtain ⟨z1, z2, z3, z4⟩ := hSW.rules 1 (g := wv.heap.size) (t := 67) rfl
      have z5 := z1 0
      obtain ⟨m1, m2, m3, m4⟩ := hSW.rules 4 (g := w.heap.size + 2) (t := 41) rfl
      have m5 := m1 0
      have HSW := hide hSW
      have HCL2 := hide hCL2
      have HL := hide hl
      have HOK2 := hide hok
      by_cases hnil : nl = 0
      · have t1 : ((nl : Int) == 0) = true := by simp [hnil]
        have t2 : (nl == 0) = true := by simp [hnil]
        have HE := hide (show (todo nO (knD gs nO n)).filter (newB gs n) = [] from by
          rw [← hl]
          exact List.eq_nil_of_length_eq_zero (by omega))
        clear hSW hCL2 hl hok hP' hK9 hS2 HS2 HS HCL z1 z4 m1 m4 hkf hD hnil
        gi_wp2
        refine collsOff (B := w.heap.size + 2) (u := .returning) (by simp) _ _ HCL2.out ?_
        intro w' c1 c2 c3 c4 c5 c6
        have hSw := (HSW.out.sub (l := [pmI (w.heap.size + 1) N (knD gs nO n)]) (by simp)).closed (B := w.heap.size + 2) (fun i hi => by
          rw [List.mem_singleton.1 hi]
          exact Tame.of_lt (fun k hk => by rw [show k = w.heap.size + 1 from hk]; omega)) (by omega) c1 c2 c3 c4 c5 c6
        exact ⟨.map (some (w.heap.size + 1)), by simp [results, Try.f13, go_sem], w.heap.size + 1, N, n, rfl, hSw, by have := HN1.out; omega, fun p hp => knD_end HE.out p hp⟩
      · have t1 : ((nl : Int) == 0) = false := by simp [hnil]
        have t2 : (nl == 0) = false := by simp [hnil]
        have HSW2 := hide (show Sep No w W [rowI 44 2 A nl cl (prs ls), blkI wv.heap.size 67 #[.slice A nl cl], pmI (w.heap.size + 1) (N + 0) (putA (knD gs nO n) (ls.take 0) (n + 1)), blkI w.heap.size 25 #[.slice AO nO cO, .slice AR nR cR], blkI (w.heap.size + 2) 41 #[.map (some (w.heap.size + 1))], blkI Bn 3 #[.int .i64 ((n + 1 : Nat) : Int)]] from by rw [List.take_zero, putA_nil]; exact hSW)
        have HPT := hide (todo_parts nO (knD gs nO n) (newB gs n) (n + 1))
        rw [← hl, ← hok] at HPT
        have hgk9 := HGK.out
        have hn19 := HN1.out
        have hn29 := HN2.out
        have hpt9 := HPT.out
        clear hSW hCL2 hP' hK9 hS2 HS2 HS HCL z1 z4 m1 m4 hkf hD HSW hl hok
        gi_wp2
        gi_loopw [37] (fun i wr => ∃ k : Nat, k ≤ nl ∧ i = .int .i64 k ∧ Hid (Colls (w.heap.size + 2) wr ({ target := .collected Dd, args := #[] } :: ds)) ∧ Sep No w wr [rowI 44 2 A nl cl (prs ls), blkI wv.heap.size 67 #[.slice A nl cl], pmI (w.heap.size + 1) (N + k) (putA (knD gs nO n) (ls.take k) (n + 1)), blkI w.heap.size 25 #[.slice AO nO cO, .slice AR nR cR], blkI (w.heap.size + 2) 41 #[.map (some (w.heap.size + 1))], blkI Bn 3 #[.int .i64 ((n + 1 : Nat) : Int)]]) (fun i _ => nl - (intOf i).toNat)
        case atStart => exact ⟨0, by omega, rfl, HCL2, HSW2.out⟩
        case round =>
          clear HSW2 HCL2 z5 m5 z2 z3 m2 m3
          obtain ⟨k, hk, rfl, HCL3, hSr⟩ := hrel
          obtain ⟨m1, m2, m3, m4⟩ := hSr.rules 4 (g := w.heap.size + 2) (t := 41) rfl
          have m5 := m1 0
          obtain ⟨n1, n2, n3, n4⟩ := hSr.rules 5 (g := Bn) (t := 3) rfl
          have n5 := n1 0
          by_cases hkl : k < nl
          · have t3 : decide ((k : Int) < (nl : Int)) = true := by simp; omega
            have t4 : decide (k < nl) = true := by simp; omega
            have hkl2 : k < ls.length := by rw [← HOK2.out]; exact hkl
            have hrow : wr.ownsRow 0 44 2 (.slice A nl cl) nl (prs ls) := hSr.get 0 rfl
            obtain ⟨ga, hA⟩ := own_addrP hrow (by omega)
            obtain ⟨p0, p1⟩ := prs_at ls k hkl2
            have HAA := hide hA
            subst hA
            have e0 := (hrow.cellAt (k * 2) (by omega)).trans p0
            have e1 := (hrow.cellAt (k * 2 + 1) (by omega)).trans p1
            have HLM := hide (show ls[k] ∈ todo nO (knD gs nO n) from by
              have h1 : ∀ y ∈ ls, y ∈ todo nO (knD gs nO n) := fun y hy => by
                rw [HL.out] at hy
                exact (List.mem_filter.1 hy).1
              exact h1 _ (List.getElem_mem hkl2))
            have HLT := hide (show ls.take (k + 1) = ls.take k ++ [ls[k]] from List.take_succ_eq_append_getElem hkl2)
            obtain ⟨q, hq⟩ : ∃ q, ls[k] = q := ⟨_, rfl⟩
            rw [hq] at e0 e1 HLM HLT
            obtain ⟨qx, qy⟩ := q
            dsimp only at e0 e1
            have hSr2 := hSr.blkAt 44 #[.int .i64 (qx : Int), .int .i64 (qy : Int)] (g := wr.heap.size) rfl
            have HSr := hide hSr2
            clear hrow p0 p1 hq hSr hSr2 m1 m4 n1 n4
            gi_wp2_with (gi_at_mapUpdate
                         refine wpListIn_pmPut rfl (.tmp 41) (.tmp 42) (.tmp 43) rfl HSr.out 2 rfl (by simp only [maxLen]; omega) (qx, qy) (n + 1) rfl rfl rfl (by have h1 := (todo_mem.1 HLM.out).1; have h2 := (todo_mem.1 HLM.out).2.1; dsimp only at h1 h2; exact ⟨by dsimp only; omega, by dsimp only; omega⟩) (by omega) ?_
                         intro w6 hS6 hC6
                         (have HS6 := hide hS6)
                         (have HC6 := hide hC6)
                         clear hS6 hC6)
            go_roundw
            case rel =>
              refine ⟨k + 1, by omega, by go_num, hide (HCL3.out.keep (fun j o hj ho _ => ?_)), ?_⟩
              · have h1 : (wr.alloc (.cells #[.int .i64 (qx : Int), .int .i64 (qy : Int)] 44)).heap[j]? = some o := (Below.heap_alloc wr _ j (Array.getElem?_eq_some_iff.1 ho).1).trans ho
                exact (HC6.out.block j (Array.getElem?_eq_some_iff.1 h1).1 (fun e => by omega)).trans h1
              · have h2 := HS6.out.sub (l := List.take 6 _) (List.take_sublist 6 _)
                rw [HLT.out, ← putA_snoc, ← Nat.add_assoc]
                exact h2
            case measure => simp [intOf]; omega
          · obtain rfl : k = nl := by omega
            have t3 : decide ((k : Int) < (k : Int)) = false := by simp
            have t4 : decide (k < k) = false := by simp
            rw [HOK2.out, List.take_length, ← HOK2.out, HL.out, knD_next] at hSr
            rw [HL.out, knD_next] at hpt9
            have W1 : IntKind.i64.wrap ((n : Int) + 1 + 1) = ((n + 1 + 1 : Nat) : Int) := by simp only [IntKind.wrap_i64]; omega
            have W2 : IntKind.i64.wrap (((n + 1 : Nat) : Int) + 1) = ((n + 1 + 1 : Nat) : Int) := by simp only [IntKind.wrap_i64]; omega
            have HM := hide (show (todo nO (knD gs nO (n + 1))).length < gk from by omega)
            have HA1 := hide (show n + 1 + (todo nO (knD gs nO (n + 1))).length ≤ 576 from by omega)
            have HA2 := hide (show N + k + (todo nO (knD gs nO (n + 1))).length ≤ 576 from by omega)
            have HCL4 := hide (HCL3.out.keep (w' := wr.alloc (.cells #[.int .i64 ((n + 1 + 1 : Nat) : Int)] 3)) (fun k o _ hk _ => (Below.heap_alloc wr _ k (Array.getElem?_eq_some_iff.1 hk).1).trans hk))
            have HSW9 := hide ((hSr.sub (l := [pmI (w.heap.size + 1) (N + k) (knD gs nO (n + 1)), blkI w.heap.size 25 #[.slice AO nO cO, .slice AR nR cR], blkI (w.heap.size + 2) 41 #[.map (some (w.heap.size + 1))]]) (by simp)).blkAt 3 #[.int .i64 ((n + 1 + 1 : Nat) : Int)] (g := wr.heap.size) rfl)
            clear hSr HCL3 m1 m4 n1 n4 hpt9 hgk9 hn19 hn29 HPT HL HOK2
            gi_wp2
            have hJ := HJ.out
            gi_roundg (todo nO (knD gs nO (n + 1))).length
            case measure => exact HM.out
            case rel => exact ⟨n + 1, wr.heap.size, N + k, rfl, rfl, HA1, HA2, HCL4, HSW9.out⟩
end Go.Proofs.Ytikaaekhghcodaa

namespace Go.Proofs.Ytikaaekhghcodaa
open Go.RowKit
def nts (u : List Nat) : List Value := ints (u.map fun k : Nat => (k : Int))
theorem nts_snoc (u : List Nat) (k : Nat) : nts (u ++ [k]) = nts u ++ (#[.int .i64 (k : Int)] : Array Value).toList := by simp [nts, ints]
/-- What is told of two. -/
def toldR (gs : List (List Val)) (p : Pr) : List Nat × Bool := match bfs gs 600 [(p, [])] [] with | some w => (w, true) | none => ([], false)
theorem toldR_eq {gs : List (List Val)} {nO N : Nat} (hr : RefOk gs nO) (hN : N ≤ 577) (h : ∀ p : Pr, p.1 < nO ∧ p.2 < nO → kn gs (N + 1) p = kn gs N p) {p : Pr} (hp : p.1 < nO ∧ p.2 < nO) :
    toldR gs p = match kn gs N p with | some n => (toldW gs (kn gs N) n p, true) | none => ([], false) := by
  have ok := kn_ok (D := fun p => p.1 < nO ∧ p.2 < nO) h
  unfold toldR
  cases hk : kn gs N p with
  | none =>
    rw [bfs_none ok (fun _ _ _ _ ho => onwO_rng hr ho) 600 [(p, [])] [] (fun x hx => by rw [List.mem_singleton.1 hx]; exact ⟨hp, hk⟩)]
  | some n =>
    have h1 := kn_pos hk
    have h2 := bfs_some ok (fun _ _ _ _ ho => onwO_rng hr ho) n 600 [] [] p [] [] (by omega) h1.1 hk (fun x hx => by cases hx) hp (fun x hx => by cases hx) (fun q hq => by cases hq)
    rw [List.nil_append] at h2
    rw [h2]
    rfl
end Go.Proofs.Ytikaaekhghcodaa
