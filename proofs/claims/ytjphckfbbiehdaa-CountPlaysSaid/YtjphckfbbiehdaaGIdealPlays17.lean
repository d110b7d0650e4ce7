/- A memory without end, made from a graph's objects. The reference: two rows of answers are the same. The reference's memory: the graph that it is. -/
import Derived.Test.YtjphckfbbiehdaaGIdealPlays16
import Derived.Test.YtjphckfbbiehdaaGIdealPlays10
import Derived.Deep.RegionHeld3
import Derived.Test.YtjphckfbbiehdaaGIdealPlays15
set_option linter.unusedSimpArgs false
set_option linter.unusedVariables false
namespace Go.Proofs.Ytjphckfbbiehdaa
open Go.RowKit

abbrev poPtr (p : Po) : Value := .pointer (some ⟨p.B, 0, none⟩)
theorem po_snoc {w X : World} {B g5 n c5 q c7 : Nat} {A5 A7 : Option Addr} {fs : List Val} {ps : List Po} {cs : Array Value} {x : Item}
    (h : Sep No w X (blkI B 119 #[.slice A5 n c5] :: rowI 107 2 A5 n c5 (vals fs) :: blkI g5 119 cs :: x :: rowI 170 1 A7 (q + 1) c7 (ps.map poPtr ++ [.pointer (some ⟨B, 0, none⟩)]) :: ps.map poI)) :
    Sep No w X (x :: rowI 170 1 A7 (q + 1) c7 ((ps ++ [(⟨B, ⟨A5, n, c5, fs⟩⟩ : Po)]).map poPtr) :: (ps ++ [(⟨B, ⟨A5, n, c5, fs⟩⟩ : Po)]).map poI) := by
  have h0 := h.sub (l := blkI B 119 #[.slice A5 n c5] :: rowI 107 2 A5 n c5 (vals fs) :: x :: rowI 170 1 A7 (q + 1) c7 (ps.map poPtr ++ [.pointer (some ⟨B, 0, none⟩)]) :: ps.map poI) (.cons_cons _ (.cons_cons _ (.cons _ (List.Sublist.refl _))))
  have h1 := (h0.join (l := [blkI B 119 #[.slice A5 n c5], rowI 107 2 A5 n c5 (vals fs)])).perm (List.perm_append_comm (l₁ := [_]))
  rw [List.map_append, List.map_append]
  exact h1

set_option maxRecDepth 100000 in
set_option maxHeartbeats 16000000 in
theorem heapOf_any (w : World) (AO AR : Option Addr) (nO cO nR cR : Nat) (obs : List Ob) (gs : List (List Val)) (hgs : obs.map Ob.fields = gs) (hO : ObsRd w (fun _ => True) AO nO obs) (hnO : nO ≤ 24) (h4 : ∀ o ∈ obs, o.n ≤ 4) (hcp : ∀ o ∈ obs, o.A = none → o.c = 0) :
    Calls Try.prog 71 #[.agg #[.slice AO nO cO, .slice AR nR cR]] w fun e w' => ∃ (As : Option Addr) (c : Nat) (ps : List Po), e = .returned (.slice As nO c) ∧ ps.length = nO ∧ ps.map (fun p => p.o.fields) = gs ∧ Sep No w w' (rowI 170 1 As nO c (ps.map poPtr) :: ps.map poI) := by
  obtain ⟨g, hg⟩ : ∃ g, w.heap.size = g := ⟨_, rfl⟩
  have hS0 := ((Sep.nil No w).blkAt 27 #[.slice AO nO cO, .slice AR nR cR] hg).nilRow 170 1
  obtain ⟨a1, a2, a3, a4⟩ := hS0.rules 0 (g := g) (t := 27) rfl
  have a5 := (a1 0).trans (show _ = some (.slice AO nO cO) from rfl)
  have HGS := hide hgs
  have H4 := hide h4
  have HCP := hide hcp
  have HS0 := hide hS0
  have HOL := hide hO.len
  clear hS0 a1 hgs h4 hcp
  go_enter Try.func71, Try.ntmps71
  go_wp2_with fail
  go_loopw [3, 9] (fun s i wr => ∃ (q : Nat) (A' : Option Addr) (c' : Nat) (ps : List Po), q ≤ nO ∧ i = .int .i64 q ∧ s = .slice A' q c' ∧ Hid (ps.map (fun p => p.o.fields) = gs.take q) ∧
    Sep No w wr (blkI g 27 #[.slice AO nO cO, .slice AR nR cR] :: rowI 170 1 A' q c' (ps.map poPtr) :: ps.map poI)) (fun _ i _ => nO - (intOf i).toNat)
  case atStart => exact ⟨0, none, 0, [], by omega, rfl, rfl, by simp [Hid], HS0.out⟩
  case round =>
    clear HS0 a2 a3 a5
    obtain ⟨q, A', c', ps, hq, rfl, rfl, HP, hS⟩ := hrel
    by_cases hlq : q < nO
    · obtain ⟨ad2, hA2, _, had2, hc2⟩ := (hO.below hS.below_).row.at_ hlq
      have hxl : q < obs.length := by rw [HOL.out]; exact hlq
      have e1 := hc2 obs[q].val (by simp [List.getElem?_eq_getElem hxl])
      have hEach := hO.each _ (List.getElem_mem hxl)
      have ho4 := H4.out _ (List.getElem_mem hxl)
      have hoc := HCP.out _ (List.getElem_mem hxl)
      have hgt : gs.take (q + 1) = gs.take q ++ [obs[q].fields] := by
        rw [← HGS.out, ← List.map_take, ← List.map_take, List.take_succ_eq_append_getElem hxl, List.map_append]; rfl
      have HGT := hide hgt
      obtain ⟨o, ho⟩ : ∃ o, obs[q] = o := ⟨_, rfl⟩
      rw [ho] at e1 hEach ho4 hoc HGT
      unfold Ob.val at e1
      obtain ⟨oA, on, oc, ofs⟩ := o
      dsimp only at e1 hEach ho4 hoc HGT
      obtain ⟨g5, hg5⟩ : ∃ x, wr.heap.size = x := ⟨_, rfl⟩
      have hS1 := (hS.blkAt 119 #[.slice oA on oc] hg5).perm List.perm_append_comm
      have CC := hide (fun W (hb : Below w.heap.size w W) => cloneV_any W oA on oc ofs hoc (by omega) (hEach.below hb))
      have HS1 := hide hS1
      subst hA2
      clear hc2 ho hgt hS1 hS hoc hEach
      go_wp2_with fail
      refine (CC.out _ HS1.out.below_).mono ?_
      rintro e w3 ⟨A5, c5, rfl, hP⟩
      have hS3 := HS1.out.consNew hP.below_ _ (hP.get 0 rfl) (fun g hg => (hP.lo 0 rfl g hg).resolve_left (fun h => h))
      obtain ⟨b7, hb7⟩ : ∃ x, w3.heap.size = x := ⟨_, rfl⟩
      have hS4 := (hS3.blkAt 119 #[.slice A5 on c5] hb7).perm List.perm_append_comm
      clear hP hS3 HS1 CC
      go_wp2_with (first
        | (at_builtin
           refine wpList_app1 (cs := #[.pointer (some ⟨b7, 0, none⟩)]) rfl (.tmp 13) (.tmp 19) 101 rfl (F := No) (W := w) sPtr (items := _ :: _ :: _ :: _ :: _ :: _) hS4 4 (n := q) rfl rfl rfl (by simp [hb7]) rfl rfl (by omega) ?_
           intro A7 c7 w7 hS7 hC7))
      go_roundw
      case rel => exact ⟨q + 1, A7, c7, ps ++ [(⟨b7, ⟨A5, on, c5, ofs⟩⟩ : Po)], by omega, by go_num, rfl, by
        show (ps ++ [(⟨b7, ⟨A5, on, c5, ofs⟩⟩ : Po)]).map (fun p => p.o.fields) = gs.take (q + 1)
        rw [List.map_append, HP.out, HGT.out]; rfl, po_snoc hS7⟩
      case measure => simp [intOf]; omega
    · obtain rfl : q = nO := by omega
      go_wp2_with fail
      go_ret
      have h := HP.out
      have hgl : gs.length = q := by rw [← HGS.out, List.length_map]; exact HOL.out
      rw [List.take_of_length_le (by omega)] at h
      refine ⟨A', c', ps, rfl, ?_, h, hS.sub (List.sublist_cons_self _ _)⟩
      have h2 := congrArg List.length h
      rw [List.length_map] at h2
      omega
end Go.Proofs.Ytjphckfbbiehdaa

namespace Go.Proofs.Ytjphckfbbiehdaa
open Go.RowKit

def outsV (l : List OutV) : List Value := l.flatMap fun o => [.int .i64 o.code, .bool o.rf, .int .i64 o.n]
theorem outsV_length (l : List OutV) : (outsV l).length = l.length * 3 := by
  unfold outsV; induction l with
  | nil => rfl
  | cons a l ih => simp [List.flatMap_cons] at ih ⊢; omega
theorem outsV_at (l : List OutV) (k : Nat) (h : k < l.length) : (outsV l)[k * 3]? = some (.int .i64 l[k].code) ∧ (outsV l)[k * 3 + 1]? = some (.bool l[k].rf) ∧ (outsV l)[k * 3 + 2]? = some (.int .i64 l[k].n) := by
  unfold outsV
  induction l generalizing k with
  | nil => simp at h
  | cons a l ih =>
    cases k with
    | zero => exact ⟨rfl, rfl, rfl⟩
    | succ k =>
      have h2 := ih k (by simpa using h)
      rw [List.flatMap_cons, show (k + 1) * 3 = k * 3 + 1 + 1 + 1 from by omega]
      exact h2
theorem neq_out (w : World) (c : Int) (b : Bool) (n : Int) : (binOp .neq 41 (.agg #[.int .i64 c, .bool b, .int .i64 n]) (.agg #[.int .i64 c, .bool b, .int .i64 n])).run Try.prog w = .ok (.bool false) w := by
  have h1 : Try.prog.underlying 41 = some (.struct (Try.prog.fieldsOf 41)) := by kernel_rfl
  have h2 : Try.prog.stoodInHeld 41 = false := by kernel_rfl
  obtain ⟨F, hF⟩ : ∃ F, (Try.prog.fieldsOf 41).toList = F := ⟨_, rfl⟩
  have h5 : F = [F[0]!, F[1]!, F[2]!] := by rw [← hF]; kernel_rfl
  have n1 : (F[0]!).name ≠ "_" := by rw [← hF]; rw [show ((Try.prog.fieldsOf 41).toList[0]!).name = "Code" from by kernel_rfl]; decide
  have n2 : (F[1]!).name ≠ "_" := by rw [← hF]; rw [show ((Try.prog.fieldsOf 41).toList[1]!).name = "Ref" from by kernel_rfl]; decide
  have n3 : (F[2]!).name ≠ "_" := by rw [← hF]; rw [show ((Try.prog.fieldsOf 41).toList[2]!).name = "N" from by kernel_rfl]; decide
  obtain ⟨t0, ht0⟩ : ∃ t, (F[0]!).type = t := ⟨_, rfl⟩
  obtain ⟨t1, ht1⟩ : ∃ t, (F[1]!).type = t := ⟨_, rfl⟩
  obtain ⟨t2, ht2⟩ : ∃ t, (F[2]!).type = t := ⟨_, rfl⟩
  have u0 : ∃ k, Try.prog.underlying t0 = some (.int k) := by rw [← ht0, ← hF]; exact ⟨.i64, by kernel_rfl⟩
  have u1 : Try.prog.underlying t1 = some .bool := by rw [← ht1, ← hF]; kernel_rfl
  have u2 : ∃ k, Try.prog.underlying t2 = some (.int k) := by rw [← ht2, ← hF]; exact ⟨.i64, by kernel_rfl⟩
  have o0 : ∀ x y z, (part t0 #[x, y, z] (F[0]!).offset).run Try.prog w = .ok x w := fun x y z => by rw [← ht0, ← hF]; kernel_rfl
  have o1 : ∀ x y z, (part t1 #[x, y, z] (F[1]!).offset).run Try.prog w = .ok y w := fun x y z => by rw [← ht1, ← hF]; kernel_rfl
  have o2 : ∀ x y z, (part t2 #[x, y, z] (F[2]!).offset).run Try.prog w = .ok z w := fun x y z => by rw [← ht2, ← hF]; kernel_rfl
  rw [run_neq_struct, run_equalIn_agg _ _ _ _ _ h1 h2, hF, h5]
  obtain ⟨k0, u0⟩ := u0
  obtain ⟨k2, u2⟩ := u2
  simp only [Op.eqFields, ht0, ht1, ht2, n1, n2, n3, ne_eq, not_false_iff, if_true, Sem.run_ite, Sem.run_bind, o0, o1, o2, Result.andThen_ok, run_equalIn_bool' w _ _ _ _ u1, run_equalIn_int w _ _ _ _ _ _ u0, run_equalIn_int w _ _ _ _ _ _ u2]
  simp
theorem guard_out (w : World) (x y : Operand) (a b : Array Value) : (eqGuard .neq 41 x y (.agg a) (.agg b)).run Try.prog w = .ok () w :=
  run_eqGuard_agg w .neq _ x y _ _ (by kernel_rfl)

set_option maxRecDepth 100000 in
set_option maxHeartbeats 8000000 in
theorem outs_any (w : World) (A1 A2 : Option Addr) (n c1 c2 : Nat) (os : List OutV) (hn : n ≤ 1000) (h1 : Rd w (fun _ => True) 3 A1 n (outsV os)) (h2 : Rd w (fun _ => True) 3 A2 n (outsV os)) :
    Calls Try.prog 30 #[.slice A1 n c1, .slice A2 n c2] w fun e w' => e = .returned (.bool true) ∧ Below w.heap.size w w' := by
  have HL := hide (show os.length = n by have := h1.1; rw [outsV_length] at this; omega)
  have hng := neq_out
  have hgd := guard_out
  go_enter Try.func30, Try.ntmps30
  go_wp2_with fail
  go_loopw [5] (fun s wr => ∃ (k : Nat), k ≤ n ∧ s = .int .i64 k ∧ Below w.heap.size w wr) (fun s _ => n - (intOf s).toNat)
  case atStart => exact ⟨0, by omega, rfl, Below.refl _ _⟩
  case round =>
    obtain ⟨k, hk, rfl, hb⟩ := hrel
    by_cases hlt : k < n
    · have hkl : k < os.length := by rw [HL.out]; exact hlt
      obtain ⟨v0, v1, v2⟩ := outsV_at os k hkl
      obtain ⟨ad, hA, _, had, hc, hd⟩ := (h1.below hb).atN hlt
      obtain ⟨ad2, hA2, _, had2, hc2, hd2⟩ := (h2.below hb).atN hlt
      have e0 := hc _ v0
      have e1 := hd 0 _ v1
      have e2 := hd 1 _ v2
      have f0 := hc2 _ v0
      have f1 := hd2 0 _ v1
      have f2 := hd2 1 _ v2
      obtain ⟨o, ho⟩ : ∃ o, os[k] = o := ⟨_, rfl⟩
      rw [ho] at e0 e1 e2 f0 f1 f2
      obtain ⟨c, r, m⟩ := o
      dsimp only at e0 e1 e2 f0 f1 f2
      subst hA hA2
      have HB := hide hb
      clear hc hd hc2 hd2 v0 v1 v2 hb ho
      go_wp2_with fail
      go_region_held3 (fun w' => w'.cell? (ad.add (k * 3)) = some (.int .i64 c) ∧ w'.cell? ⟨(ad.add (k * 3)).block, (ad.add (k * 3)).off + 1, none⟩ = some (.bool r) ∧ w'.cell? ⟨(ad.add (k * 3)).block, (ad.add (k * 3)).off + 2, none⟩ = some (.int .i64 m) ∧ w'.cell? (ad2.add (k * 3)) = some (.int .i64 c) ∧ w'.cell? ⟨(ad2.add (k * 3)).block, (ad2.add (k * 3)).off + 1, none⟩ = some (.bool r) ∧ w'.cell? ⟨(ad2.add (k * 3)).block, (ad2.add (k * 3)).off + 2, none⟩ = some (.int .i64 m)) (go_keep) (fail)
      all_goals go_wp2_with fail
      all_goals exact ⟨⟨k + 1, by omega, by go_num, HB.out.drew⟩, by simp [intOf]; omega⟩
    · obtain rfl : k = n := by omega
      go_wp2_with fail
      go_ret
      exact ⟨rfl, hb⟩
end Go.Proofs.Ytjphckfbbiehdaa

namespace Go.Proofs.Ytjphckfbbiehdaa
open Go.RowKit

theorem rm_obsRd {Bm : Nat} {s : RMem} {w : World} (hP : (rmI Bm s).P w) : ObsRd w (fun _ => True) s.Ao s.obs.length s.obs ∧ Rd w (fun _ => True) 2 (some ⟨s.gr, 0, none⟩) s.regs.length (vals s.regs) := by
  have hS := (Sep.start hP).flat
  refine ⟨⟨Rd.of_own (D := fun _ => True) (show w.ownsRow 0 119 1 (.slice s.Ao s.obs.length s.co) s.obs.length _ from hS.get 2 rfl) (fun _ _ => trivial), fun o ho => ?_⟩, Rd.of_own (D := fun _ => True) (show w.ownsRow 0 107 2 (.slice (some ⟨s.gr, 0, none⟩) s.regs.length s.cR) s.regs.length _ from hS.get 1 rfl) (fun _ _ => trivial)⟩
  have h1 : (obI o).P w := hS.all _ (by unfold rmL; simp only [List.mem_cons, List.mem_map]; exact .inr (.inr (.inr (.inr ⟨o, ho, rfl⟩))))
  exact Rd.of_own (D := fun _ => True) (show w.ownsRow 0 107 2 (.slice o.A o.n o.c) o.n _ from h1) (fun _ _ => trivial)
theorem rm_gokw {Bm : Nat} {s : RMem} {w : World} (hP : (rmI Bm s).P w) (ok : ROk s) : GOkW s.obs.length s.regs.length s.obs s.regs := by
  have hl : (s.obs.map Ob.fields).length = s.obs.length := List.length_map _
  have hf := ok.m.f4
  have hvo := ok.m.vo
  have hvr := ok.m.vr
  unfold absR at hf hvo hvr
  exact ⟨by have := ok.n; omega, by have := ok.m.r8; unfold absR at this; dsimp only at this; omega, fun o ho => by have h1 := rm_len hP ho; have := hf o.fields (List.mem_map.2 ⟨o, ho, rfl⟩); omega, hl, hvo, hvr, hf⟩

set_option maxRecDepth 100000 in
set_option maxHeartbeats 8000000 in
theorem rgraph_any {Bm : Nat} {s : RMem} {w : World} (hP : (rmI Bm s).P w) (ok : ROk s) :
    Calls Try.prog 70 #[.pointer (some ⟨Bm, 0, none⟩)] w fun e w' => ∃ v', e = .returned v' ∧ Below w.heap.size w w' ∧ GraphRd w' (fun g => w.heap.size ≤ g) v' (renumF (absR s).objs (order (absR s).objs s.regs)) (s.regs.map (turnL (order (absR s).objs s.regs))) := by
  obtain ⟨g, hg⟩ : ∃ g, w.heap.size = g := ⟨_, rfl⟩
  have hS0 := (Sep.nil No w).blkAt 27 #[.slice none 0 0, .slice none 0 0] (g := g) hg
  obtain ⟨a1, a2, a3, a4⟩ := hS0.rules 0 (g := g) (t := 27) rfl
  have a5 := (a1 0).trans (show _ = some (.slice none 0 0) from rfl)
  have a6 := (a1 1).trans (show _ = some (.slice none 0 0) from rfl)
  obtain ⟨hO, hR⟩ := rm_obsRd hP
  have hG := rm_gokw hP ok
  obtain ⟨m0, m1, _, m3, _⟩ := rm_mem hP
  have C1 := hide (fun w' (hb : Below w.heap.size w w') => refCanonW_any w' s.Ao (some ⟨s.gr, 0, none⟩) s.obs.length s.co s.regs.length s.cR s.obs s.regs (hO.below hb) (hR.below hb) hG)
  have m4 := (World.cell?_alloc_lt _ (.cells #[.slice none 0 0, .slice none 0 0] 27) _ m3).trans m0
  have m5 := (World.cell?_alloc_lt _ (.cells #[.slice none 0 0, .slice none 0 0] 27) _ m3).trans m1
  have hgo : (absR s).objs = s.obs.map Ob.fields := rfl
  rw [hgo]
  obtain ⟨FF, hFF⟩ : ∃ F, renumF (s.obs.map Ob.fields) (order (s.obs.map Ob.fields) s.regs) = F := ⟨_, rfl⟩
  obtain ⟨RR, hRR⟩ : ∃ R, s.regs.map (turnL (order (s.obs.map Ob.fields) s.regs)) = R := ⟨_, rfl⟩
  simp only [hFF, hRR] at C1 ⊢
  have q1 : Bm ≠ g := by omega
  have HS0 := hide hS0
  have HG := hide hg
  have HP := hide hP
  clear hS0 a1 hO hR hG hP ok hFF hRR hgo m0 m1
  go_enter Try.func70, Try.ntmps70
  go_wp2_with fail
  obtain ⟨w0, hw0⟩ : ∃ x, w.alloc (.cells #[.slice none 0 0, .slice none 0 0] 27) = x := ⟨_, rfl⟩
  rw [hw0] at a2 a3 a5 a6 m4 m5 HS0 ⊢
  clear hw0
  have C2 := hide (C1.out w0.drew HS0.out.drew.below_)
  go_region_held3 (fun w' => w'.cell? ⟨Bm, 0, none⟩ = some (.slice (some ⟨s.gr, 0, none⟩) s.regs.length s.cR) ∧ w'.cell? ⟨Bm, 1, none⟩ = some (.slice s.Ao s.obs.length s.co)) (first | go_keep | (simp [*, go_sem]; done))
    (first
      | (go_at_call 136; (with_reducible refine C2.out.mono ?_); rintro e w6 ⟨v', rfl, hb6, hg6⟩; obtain ⟨A5, n5, c5, A6, n6, c6, obs', rfl, hO5, hF5, hR6⟩ := hg6.ex; have hS6 := HS0.out.drew.below hb6; obtain ⟨k3, k4, _, k5, _⟩ := rm_mem (((Sep.start HP.out).below hS6.below_).get 0 rfl); obtain ⟨x1, x2, x3, x4⟩ := hS6.rules 0 (g := g) (t := 27) rfl; have HG6 := hide hg6; have HS6 := hide hS6; clear hS6 hg6 hb6 hO5 hF5 hR6 x4))
  all_goals
    have hgl : g < w0.drew.heap.size := by exact a3
    go_wp2_with fail
    have hF := (HS6.out.set_ 0 (g := g) (t := 27) rfl 0 (.slice A5 n5 c5)).set_ 0 (g := g) (t := 27) rfl 1 (.slice A6 n6 c6)
    refine bodyPost_ret (v := .agg #[.slice A5 n5 c5, .slice A6 n6 c6]) (by simp [results, Try.results70, go_sem, x1]) rfl ⟨_, rfl, hF.below_, ?_⟩
    have hc : Chg (fun g' => g' = g) w6 ((w6.setCell ⟨g, 0, none⟩ (.slice A5 n5 c5)).setCell ⟨g, 1, none⟩ (.slice A6 n6 c6)) := ((Chg.refl (fun g' => g' = g) w6).setCell (p := ⟨g, 0, none⟩) (.inl rfl) _).setCell (p := ⟨g, 1, none⟩) (.inl rfl) _
    obtain ⟨B5, m5, d5, B6, m6, d6, obs2, he, hO5, hF5, hR6⟩ := HG6.out.ex
    have hgw := HG.out
    exact ⟨B5, m5, d5, B6, m6, d6, obs2, he, (hO5.chg hc (fun g' hg hd => by subst hg; omega)).more (fun k _ hk => by omega), hF5, (hR6.chg hc (fun g' hg hd => by subst hg; omega)).more (fun k _ hk => by omega)⟩
end Go.Proofs.Ytjphckfbbiehdaa
