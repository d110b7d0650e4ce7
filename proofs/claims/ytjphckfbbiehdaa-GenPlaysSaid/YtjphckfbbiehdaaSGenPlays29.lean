/- A memory with young and old objects: major. A memory with young and old objects as a machine's memory. A machine's first registers. -/
import Derived.Test.YtjphckfbbiehdaaSGenPlays26
import Derived.Test.YtjphckfbbiehdaaSGenPlays28
import Derived.Test.YtjphckfbbiehdaaSGenPlays27
import Derived.StillTailTactics
import Derived.Laws.CopyOwn
import Derived.Test.YtjphckfbbiehdaaSGenPlays20
set_option linter.unusedSimpArgs false
set_option linter.unusedVariables false
namespace Go.Proofs.Ytjphckfbbiehdaa
open Go.RowKit Go.Maps
theorem bt_map (f : Nat → Bool) (n i : Nat) (h : i < n) : ((List.range n).map f).getD i false = f i := GnA.od_range f n i h
set_option maxRecDepth 100000 in
set_option maxHeartbeats 32000000 in
theorem gmajor_any {F : Nat → Prop} {W0 w : World} {Be Bm : Nat} {room : Int} {t : GnT} (hK : Sep F W0 w (gnK Be Bm room t)) (ok : GnOk t.a) (hn : t.oj.ps.length ≤ 600) :
    Calls Try.prog 88 #[.pointer (some ⟨Be, 0, none⟩)] w fun e w' => (∃ u, e = .returned u) ∧ ∃ t' : GnT, t'.a = t.a.major ∧ t'.N ≤ t.N ∧ Sep F W0 w' (gnK Be Bm room t') := by
  have hNl : t.a.objs.length = t.oj.ps.length := List.length_map ..
  have hol : t.old.length = t.oj.ps.length := by have h : t.old.length = t.a.objs.length := ok.ol; omega
  obtain ⟨k0, k1, k2, k3, -, k5, k6⟩ := gn_cells (pre := []) hK
  have hBm : Bm < w.heap.size := hK.hi 0 rfl Bm rfl
  have C1 := hide (greached_any hK.drew ok hn)
  have HK := hide hK
  have HOK := hide ok
  have HN := hide hn
  have HNL := hide hNl
  have HOL := hide hol
  have hmx : Try.prog.follows .mixedOrders = true := by kernel_rfl
  unfold Oj.v at k0 C1
  clear hK ok hNl hol
  go_enter Try.func88, Try.ntmps88
  go_wp2_with fail
  go_still_tail 10, hmx
  go_wp2_with fail
  refine C1.out.mono ?_
  rintro e w1 ⟨gr, rfl, hP1⟩
  have hS1 := HK.out.drew.consNew hP1.below_ _ (hP1.get 0 rfl) (fun g hg => (hP1.lo 0 rfl g hg).resolve_left (fun h => h))
  have HS1 := hide hS1
  obtain ⟨c1, c2, c3, -⟩ := hS1.rules 2 (g := Be) (t := 199) rfl
  have c4 := (c1 0).trans (show _ = some t.oj.v from rfl)
  have CT := oThere_any w1 t.oj.As t.oj.ps.length t.oj.c t.oj.ps (by have := HN.out; omega) (hS1.rd_ 5 rfl)
  have HTL := hide (show ∀ x ∈ thereL t.oj.ps, ∃ z : Nat, x = (z : Int) ∧ z < t.oj.ps.length from fun x hx => there_lt hx)
  have hTle := thereL_len t.oj.ps
  obtain ⟨T, hT⟩ : ∃ T, thereL t.oj.ps = T := ⟨_, rfl⟩
  have HTE := hide hT
  rw [hT] at CT HTL hTle
  unfold Oj.v at c4
  have HC2 := hide CT
  clear CT hT c1 hP1 hS1 C1 HK k0 k1 k2 k3 k5 k6 hBm
  go_wp2_with fail
  refine HC2.out.mono ?_
  rintro e w2 ⟨A2, cc2, rfl, hP2⟩
  have hS3 := HS1.out.consNew hP2.below_ _ (hP2.get 0 rfl) (fun g hg => (hP2.lo 0 rfl g hg).resolve_left (fun h => h))
  obtain ⟨m, hm⟩ : ∃ m, T.length = m := ⟨_, rfl⟩
  rw [hm] at hS3 hTle ⊢
  have HM2 := hide hm
  have HS3 := hide hS3
  have hm9 : m ≤ 600 := by have := HN.out; omega
  clear hP2 hm HC2 hS3 c2 c3 c4 HS1
  go_wp2_with fail
  go_loopw [4, 22] (fun _ i wr => ∃ (k : Nat) (s : Oj) (h : List Bool), k ≤ m ∧ i = .int .i64 k ∧ Hid (h.length = t.old.length ∧ ∀ i, bt h i = (bt t.old i || decide ((i : Int) ∈ T.take k))) ∧ Hid (s.abs = dropF t.oj.abs (goneB t.a.lives (T.take k)) ∧ s.ps.length = t.oj.ps.length ∧ s.As = t.oj.As ∧ s.c = t.oj.c) ∧ Sep F W0 wr (rowI 3 1 A2 m cc2 (ints T) :: rowI 4 1 (some ⟨gr, 0, none⟩) t.oj.ps.length t.oj.ps.length (bools ((List.range t.oj.ps.length).map t.a.lives)) :: ([gnM Be Bm t, blkI Be 199 (gnC Bm room t), oldI t.Ao t.oc t.old.length h, gmI t.b t.N t.mks] ++ ojL s))) (fun _ i _ => m - (intOf i).toNat)
  case atStart => exact ⟨0, t.oj, t.old, by omega, rfl, hide ⟨rfl, fun i => by simp⟩, hide ⟨rfl, rfl, rfl, rfl⟩, HS3.out⟩
  case round =>
    clear HS3
    obtain ⟨k, s, h, hk, rfl, HO, HI, hS⟩ := hrel
    obtain ⟨habs, hps, hAs, hcs⟩ := HI.out
    obtain ⟨hhl, hhb⟩ := HO.out
    obtain ⟨c1, c2, c3, -⟩ := hS.rules 3 (g := Be) (t := 199) rfl
    have c4 := (c1 0).trans (show _ = some t.oj.v from rfl)
    have c5 := (c1 2).trans (show _ = some (.slice t.Ao t.old.length t.oc) from rfl)
    have c6 := (c1 3).trans (show _ = some (.map (some t.b)) from rfl)
    unfold Oj.v at c4
    by_cases hlt : k < m
    · have hkl : k < T.length := by rw [HM2.out]; exact hlt
      obtain ⟨ad, hA, _, had, hc⟩ := (hS.rd_ 0 rfl).at_ hlt
      have e0 := hc (.int .i64 T[k]) (by simp [ints, List.getElem?_eq_getElem hkl])
      have hTk := List.take_succ_eq_append_getElem hkl
      obtain ⟨z, hz, hzN⟩ := HTL.out _ (List.getElem_mem hkl)
      rw [hz] at e0 hTk
      have hG := goneB_snoc t.a.lives (T.take k) (z : Int)
      rw [← hTk, Int.toNat_natCast] at hG
      obtain ⟨go2, hgo2⟩ := old_some hS (k := 4) rfl (by rw [HOL.out]; omega)
      have hrow := hS.get 4 rfl
      unfold oldI at hrow
      rw [hgo2] at hrow c5
      obtain ⟨f1, f2⟩ := bo_cell hrow z (by rw [HOL.out]; exact hzN)
      have hrowS := hS.get 1 rfl
      obtain ⟨s1, s2⟩ := bo_cell hrowS z hzN
      rw [bt_map _ _ _ hzN] at s1
      obtain ⟨y, hy⟩ : ∃ y, t.a.lives z = y := ⟨_, rfl⟩
      rw [hy] at s1 hG
      have hol := HOL.out
      have t1 : (z : Int) < (t.old.length : Int) := by omega
      have t2 : z < t.old.length := by omega
      have t3 : (z : Int) < (t.oj.ps.length : Int) := by omega
      have hfpo : (oldI t.Ao t.oc t.old.length h).fp go2 := by rw [hgo2]; exact oldI_fp.2 rfl
      have n1 : gr ≠ go2 := fun e => hS.other (a := 1) (b := 4) rfl rfl (by omega) gr (by show (Value.slice (some ⟨gr, 0, none⟩) _ _).ownBlock = some gr; rfl) (e ▸ hfpo)
      have n2 : Be ≠ go2 := fun e => hS.other (a := 3) (b := 4) rfl rfl (by omega) Be rfl (e ▸ hfpo)
      have n2' : go2 ≠ Be := fun e => n2 e.symm
      have hgolt : go2 < wr.heap.size := hS.hi 4 rfl go2 hfpo
      have hgrlt : gr < wr.heap.size := hS.hi 1 rfl gr rfl
      have hS2 := hS
      rw [hgo2] at hS2
      have hSo := hS2.store 4 rfl z (.bool true)
      rw [bools_st, ← hgo2] at hSo
      have hSo2 : Sep F W0 (wr.setCell ⟨go2, z, none⟩ (.bool true)) (rowI 3 1 A2 m cc2 (ints T) :: rowI 4 1 (some ⟨gr, 0, none⟩) t.oj.ps.length t.oj.ps.length (bools ((List.range t.oj.ps.length).map t.a.lives)) :: ([gnM Be Bm t, blkI Be 199 (gnC Bm room t), oldI t.Ao t.oc t.old.length (h.set z true), gmI t.b t.N t.mks] ++ ojL s)) := hSo
      have HO2 := hide (show (h.set z true).length = t.old.length ∧ ∀ i, bt (h.set z true) i = (bt t.old i || decide ((i : Int) ∈ T.take (k + 1))) from ⟨by rw [List.length_set]; exact hhl, fun i => by
        rw [bt_set h z i (by rw [hhl]; exact t2), hTk, hhb]
        by_cases e : i = z
        · subst e; rw [if_pos rfl]; simp
        · rw [if_neg e]
          have : (i : Int) ∈ T.take k ++ [(z : Int)] ↔ (i : Int) ∈ T.take k := by
            rw [List.mem_append, List.mem_singleton]
            exact ⟨fun h => h.resolve_right (fun h => e (by omega)), .inl⟩
          rw [decide_eq_decide.2 this]⟩)
      obtain ⟨o1, o2, o3, -⟩ := hSo2.rules 3 (g := Be) (t := 199) rfl
      subst hA
      cases y with
      | true =>
        rw [if_pos rfl, List.append_nil] at hG
        have HI2 := hide (show s.abs = dropF t.oj.abs (goneB t.a.lives (T.take (k + 1))) ∧ s.ps.length = t.oj.ps.length ∧ s.As = t.oj.As ∧ s.c = t.oj.c from by rw [hG]; exact ⟨habs, hps, hAs, hcs⟩)
        have HS4 := hide hSo2
        clear hc hTk hz hS hS2 hSo hSo2 hG habs hps hAs hcs HI HO hhl hhb c1 o1 hrow hrowS hy hfpo
        go_wp2_with fail
        go_roundw
        case rel => exact ⟨k + 1, s, h.set z true, by omega, by go_num, HO2, HI2, HS4.out⟩
        case measure => simp [intOf]; omega
      | false =>
        rw [if_neg (by simp)] at hG
        have hil : z < s.ps.length := by rw [hps]; exact hzN
        have hrow4 : wr.ownsRow 0 170 1 (.slice s.As s.ps.length s.c) s.ps.length (s.ps.map ptrV) := hS.get 6 rfl
        obtain ⟨ga, hga⟩ := hown_addr hrow4 (by omega)
        have hfpa : (rowI 170 1 s.As s.ps.length s.c (s.ps.map ptrV)).fp ga := by show (Value.slice s.As s.ps.length s.c).ownBlock = some ga; rw [hga]; rfl
        have p2 : ga < wr.heap.size := hS.hi 6 (i := rowI 170 1 s.As s.ps.length s.c (s.ps.map ptrV)) rfl ga hfpa
        have n3 : ga ≠ go2 := fun e => hS.other (a := 6) (b := 4) (x := rowI 170 1 s.As s.ps.length s.c (s.ps.map ptrV)) rfl rfl (by omega) ga hfpa (e ▸ hfpo)
        have n3' : go2 ≠ ga := fun e => n3 e.symm
        have p3 : wr.frozen? ⟨ga, z, none⟩ = false := by
          have ho := hrow4
          rw [hga] at ho
          exact ho.frozenAt _
        have p4 : wr.cell? ⟨ga, z, none⟩ = some (ptrV s.ps[z]) := by
          obtain ⟨ad2, hA2, _, _, hc2⟩ := (Rd.of_own (D := fun _ => True) hrow4 (fun _ _ => trivial)).at_ (k := z) hil
          have h5 := hc2 (ptrV s.ps[z]) (by simp [List.getElem?_eq_getElem hil])
          obtain rfl : (⟨ga, 0, none⟩ : Addr) = ad2 := by rw [hga] at hA2; injection hA2
          rw [hraddr0] at h5
          exact h5
        obtain ⟨pv, hpv⟩ : ∃ v, ptrV s.ps[z] = v := ⟨_, rfl⟩
        rw [hpv] at p4
        have HI2 := hide (show (s.dropG z).abs = dropF t.oj.abs (goneB t.a.lives (T.take (k + 1))) ∧ (s.dropG z).ps.length = t.oj.ps.length ∧ (s.dropG z).As = t.oj.As ∧ (s.dropG z).c = t.oj.c from by
          rw [hG, dropG_snoc, ← habs, gj_drop_abs, Int.toNat_natCast]
          exact ⟨rfl, by show (s.ps.set z none).length = _; rw [List.length_set]; exact hps, hAs, hcs⟩)
        have HS4 := hide (show Sep F W0 ((wr.setCell ⟨go2, z, none⟩ (.bool true)).setCell ⟨ga, z, none⟩ (.pointer none)) (rowI 3 1 (some ad) m cc2 (ints T) :: rowI 4 1 (some ⟨gr, 0, none⟩) t.oj.ps.length t.oj.ps.length (bools ((List.range t.oj.ps.length).map t.a.lives)) :: ([gnM Be Bm t, blkI Be 199 (gnC Bm room t), oldI t.Ao t.oc t.old.length (h.set z true), gmI t.b t.N t.mks] ++ ojL (s.dropG z))) from gj_drop (pre := [_, _, _, _, _, _]) hSo2 hil hga)
        rw [← hAs, hga] at c4
        clear hc hTk hz hS hS2 hSo hSo2 hG habs hps hAs hcs HI HO hhl hhb c1 o1 hrow hrowS hy hfpo hrow4 hga hpv hil hfpa
        go_wp2_with fail
        go_roundw
        case rel => exact ⟨k + 1, s.dropG z, h.set z true, by omega, by go_num, HO2, HI2, HS4.out⟩
        case measure => simp [intOf]; omega
    · obtain rfl : k = m := by omega
      rw [List.take_of_length_le (by rw [HM2.out]; exact Nat.le_refl _)] at habs hhb
      have HS := hide hS
      have hhr : h = (List.range t.a.objs.length).map fun i => t.a.od i || (t.a.fld i).isSome := by
        have hl2 : h.length = t.a.objs.length := by rw [hhl, HOL.out, HNL.out]
        apply List.ext_getElem (by simp [hl2])
        intro i hi1 hi2
        have h5 := hhb i
        unfold bt at h5
        rw [List.getD_eq_getElem?_getD, List.getElem?_eq_getElem hi1, Option.getD_some] at h5
        rw [h5, List.getElem_map, List.getElem_range]
        congr 1
        rw [Bool.eq_iff_iff, decide_eq_true_eq, ← HTE.out, ← thereL_oj, mem_thereL]
        constructor
        · rintro ⟨j, fs, e, hj⟩
          obtain rfl : i = j := by omega
          have : t.a.fld i = some fs := GnA.fld_iff.2 hj
          rw [this]; rfl
        · intro h6
          cases h7 : t.a.fld i with
          | none => rw [h7] at h6; cases h6
          | some fs => exact ⟨i, fs, rfl, GnA.fld_iff.1 h7⟩
      have HE := hide (show (⟨t.regs, s, t.Ao, t.oc, h, t.b, 0, []⟩ : GnT).a = t.a.major from by
        show (⟨t.regs, s.abs, h, []⟩ : GnA) = _
        unfold GnA.major dropK
        rw [habs, ← HTE.out, ← thereL_oj, hhr]
        rfl)
      have HKE := hide (fun (X : World) (hX : Sep F W0 X (rowI 3 1 A2 k cc2 (ints T) :: rowI 4 1 (some ⟨gr, 0, none⟩) t.oj.ps.length t.oj.ps.length (bools ((List.range t.oj.ps.length).map t.a.lives)) :: ([gnM Be Bm t, blkI Be 199 (gnC Bm room t), oldI t.Ao t.oc t.old.length h, gmI t.b 0 []] ++ ojL s))) => (show Sep F W0 X (gnK Be Bm room ⟨t.regs, s, t.Ao, t.oc, h, t.b, 0, []⟩) from by
        have e1 : gnC Bm room ⟨t.regs, s, t.Ao, t.oc, h, t.b, 0, []⟩ = gnC Bm room t := by
          unfold gnC Oj.v
          dsimp only
          rw [hps, hAs, hcs, hhl]
        unfold gnK gnR
        rw [e1]
        dsimp only
        rw [hhl]
        exact hX.sub (.cons _ (List.sublist_cons_self ..))))
      clear hS habs hps hAs hcs HI HO hhb hhr c1 c4 c5
      go_wp2_with (first
        | (refine wpList_gmClear rfl (.tmp 47) rfl HS.out 5 rfl rfl ?_
           intro w7 hS7
           (have HS7 := hide (HKE.out w7 hS7))
           clear hS7))
      go_end0
      exact ⟨⟨_, rfl⟩, _, HE.out, Nat.zero_le _, HS7.out⟩
end Go.Proofs.Ytjphckfbbiehdaa

namespace Go.Proofs.Ytjphckfbbiehdaa
open Go.RowKit Go.Maps
/-- The map may be said to hold more. -/
theorem Sep.gmMore {F : Nat → Prop} {W w : World} {items : List Item} (hS : Sep F W w items) (k : Nat) {b N M : Nat} {l : List Gp} (hk : items[k]? = some (gmI b N l)) (h : N ≤ M) : Sep F W w (items.set k (gmI b M l)) := by
  obtain ⟨D, h1, h2⟩ : (gmI b N l).P w := hS.get k hk
  exact hS.step k hk (Chg.refl _ w) (gmI b M l) ⟨D, gm_tight h1 (Nat.le_trans h1.size_le h), h2⟩ (fun g hg => .inl hg)
theorem gnK_more {F : Nat → Prop} {W0 w : World} {Be Bm : Nat} {room : Int} {t : GnT} (h : Sep F W0 w (gnK Be Bm room t)) {M : Nat} (hM : t.N ≤ M) : Sep F W0 w (gnK Be Bm room { t with N := M }) :=
  h.gmMore 3 rfl hM
structure GnOk2 (a : GnA × Nat) : Prop where
  ok : GnOk a.1
  n : a.1.objs.length ≤ 500
  m : a.2 ≤ 100000
def gnKm (room : Nat) (Bm Be : Nat) : MemK where
  A := GnA × Nat
  St := GnT
  abs t := (t.a, t.N)
  Bm := Bm
  T := 195
  p := .pointer (some ⟨Be, 0, none⟩)
  regs a := a.1.regs
  fld a := a.1.fld
  rest t := gnR Be Bm (room : Int) t
  ok := GnOk2
  ok1 a := GnOk a.1 ∧ a.1.objs.length < 500 ∧ a.2 ≤ 100000
  hold a _ _ := a
  setr a r v := (a.1.sr r v, a.2)
  new_ a n := (((gnNew room a.1 n).1, a.2), (gnNew room a.1 n).2.1, (gnNew room a.1 n).2.2)
  put a i k v := (gnPut a.1 i k v, a.2 + 1)
  fH := 276
  fN := 277
  fL := 264
  fG := 262
  fP := 278
  rL t := t.oj.v
  rG t := t.oj.v
  rP _ := .pointer (some ⟨Be, 0, none⟩)
set_option maxHeartbeats 400000 in
theorem ghold_any (w : World) (p : Value) (r : Int) (v : Val) : Calls Try.prog 276 #[p, .int .i64 r, .agg #[.bool v.1, .int .i64 v.2]] w fun e w' => (∃ u, e = .returned u) ∧ Below w.heap.size w w' := by
  go_enter Try.func276, Try.ntmps276
  go_wp2_with fail
  go_end0
  exact ⟨⟨_, rfl⟩, (Below.refl _ w).alloc (Nat.le_refl _) _⟩
theorem gmeth_hold (x : Value) (w : World) : (method 455 195 x "Hold").run Try.prog w = .ok (276, x) w := by kernel_rfl
theorem gmeth_new (x : Value) (w : World) : (method 455 195 x "New").run Try.prog w = .ok (277, x) w := by kernel_rfl
theorem gmeth_put (x : Value) (w : World) : (method 455 195 x "Put").run Try.prog w = .ok (278, x) w := by kernel_rfl
theorem gmeth_len0 (Be : Nat) (w : World) : (method 455 195 (.pointer (some ⟨Be, 0, none⟩)) "Len").run Try.prog w = (Sem.run Try.prog (do let v ← receiverAt 101 (.var ⟨Be, 0, none⟩) false none; pure (264, v)) w) := by kernel_rfl
theorem gmeth_get0 (Be : Nat) (w : World) : (method 455 195 (.pointer (some ⟨Be, 0, none⟩)) "Get").run Try.prog w = (Sem.run Try.prog (do let v ← receiverAt 101 (.var ⟨Be, 0, none⟩) false none; pure (262, v)) w) := by kernel_rfl
theorem gmeth_len (Be : Nat) (v : Value) (w : World) (h : w.cell? ⟨Be, 0, none⟩ = some v) : (method 455 195 (.pointer (some ⟨Be, 0, none⟩)) "Len").run Try.prog w = .ok (264, v) w := by
  rw [gmeth_len0, Sem.run_bind, recv_cell Be w v h]; rfl
theorem gmeth_get (Be : Nat) (v : Value) (w : World) (h : w.cell? ⟨Be, 0, none⟩ = some v) : (method 455 195 (.pointer (some ⟨Be, 0, none⟩)) "Get").run Try.prog w = .ok (262, v) w := by
  rw [gmeth_get0, Sem.run_bind, recv_cell Be w v h]; rfl
theorem gkm_flat {room Bm Be : Nat} {t : GnT} {w : World} (hP : ((gnKm room Bm Be).item t).P w) : Sep ((gnKm room Bm Be).item t).fp w w (gnK Be Bm (room : Int) t) := (Sep.start hP).flat
theorem gkm_fold {room Bm Be : Nat} {t : GnT} {F : Nat → Prop} {W0 w : World} (h : Sep F W0 w (gnK Be Bm (room : Int) t)) : Sep F W0 w [(gnKm room Bm Be).item t] := Sep.fold (l := (gnKm room Bm Be).items t) h
theorem gn_fld {t : GnT} {i : Nat} {fs : List Val} (h : t.a.fld i = some fs) : ∃ p, t.oj.ps[i]? = some (some p) ∧ p.o.fields = fs := oj_abs_at (GnA.fld_iff.1 h)
theorem gn_len (t : GnT) : t.a.objs.length = t.oj.ps.length := List.length_map ..
theorem gnNew_len (room : Nat) (a : GnA) (n : Nat) : (gnNew room a n).1.objs.length ≤ a.objs.length + 1 ∧ a.objs.length ≤ (gnNew room a n).1.objs.length := by
  have h := gnRoom_len room a
  unfold gnNew
  split
  · exact ⟨by dsimp only; omega, by dsimp only; omega⟩
  · have : ((gnRoom room a).push n).objs.length = (gnRoom room a).objs.length + 1 := by
      show ((gnRoom room a).objs ++ [_]).length = _; simp
    exact ⟨by dsimp only; omega, by dsimp only; omega⟩
set_option maxHeartbeats 1000000 in
theorem gnKm_ok (room Bm Be : Nat) : (gnKm room Bm Be).Ok where
  r8 _ ok := GnOk.r8 (GnOk2.ok ok)
  vr _ v ok hv := GnOk.vr (GnOk2.ok ok) v hv
  vf _ i fs v ok h hv := GnOk.vf (GnOk2.ok ok) i fs v h hv
  f4 _ i fs ok h := GnOk.f4 (GnOk2.ok ok) i fs h
  lim _ i fs ok h := by have h1 := GnA.fld_lt h; have h2 := GnOk2.n ok; omega
  set_ t r v := ⟨{ t with regs := t.regs.set r v }, rfl, rfl⟩
  regs_set _ _ _ := rfl
  regs_hold _ _ _ := rfl
  regs_put _ _ _ _ := rfl
  eH := kenter_of Try.func276 (by kernel_rfl) rfl
  eN := kenter_of Try.func277 (by kernel_rfl) rfl
  eL := kenter_of Try.func264 (by kernel_rfl) rfl
  eG := kenter_of Try.func262 (by kernel_rfl) rfl
  eP := kenter_of Try.func278 (by kernel_rfl) rfl
  mH w := gmeth_hold _ w
  mN w := gmeth_new _ w
  mL _ w hP := gmeth_len Be _ w (gn_cells (pre := []) (gkm_flat hP)).1
  mG _ w hP := gmeth_get Be _ w (gn_cells (pre := []) (gkm_flat hP)).1
  mP _ w _ := gmeth_put _ w
  cH t w r v hP _ _ _ := (ghold_any w _ r v).mono fun _ _ ⟨he, hb⟩ => ⟨he, t, rfl, (Sep.start hP).below hb⟩
  cN t w n hP ok h4 := by
    have hn : t.oj.ps.length ≤ 500 := by have h1 := GnOk2.n ok; have h2 := gn_len t; exact h2 ▸ h1
    refine (gnew_any (gkm_flat hP) (GnOk2.ok ok) hn h4).mono ?_
    rintro e w' ⟨he, t', e1, hN, hS⟩
    exact ⟨he, { t' with N := t.N }, by show (t'.a, t.N) = ((gnNew room t.a n).1, t.N); rw [e1], gkm_fold (gnK_more hS hN)⟩
  ok_of _ h := ⟨h.1, by have := h.2.1; omega, h.2.2⟩
  okN a n h h4 := by
    obtain ⟨k1, k2⟩ := GnOk.new_ h.1 room h4
    obtain ⟨l1, l2⟩ := gnNew_len room a.1 n
    exact ⟨⟨k1, by show (gnNew room a.1 n).1.objs.length ≤ 500; have := h.2.1; omega, h.2.2⟩, k2⟩
  cL t w i fs hP ok h := by
    obtain ⟨p, hp, hf⟩ := gn_fld h
    have hS := gkm_flat hP
    have hl := oj_len (pre := [_, _, _, _]) hS hp
    have hn : t.oj.ps.length ≤ 500 := by have h1 := GnOk2.n ok; have h2 := gn_len t; exact h2 ▸ h1
    refine (olen_any (pre := [_, _, _, _]) hS (by omega) hp).mono fun e w' ⟨he, hw⟩ => ⟨?_, hw⟩
    rw [he, ← hf, hl]
  cG t w i k fs hk hP ok h := by
    obtain ⟨p, hp, hf⟩ := gn_fld h
    have hS := gkm_flat hP
    have hn : t.oj.ps.length ≤ 500 := by have h1 := GnOk2.n ok; have h2 := gn_len t; exact h2 ▸ h1
    have h4 := GnOk.f4 (GnOk2.ok ok) i fs h
    subst hf
    exact oget_any (pre := [_, _, _, _]) hS (by omega) hp hk h4
  cP t w i k fs v hk hP ok h hv := by
    have hn : t.oj.ps.length ≤ 500 := by have h1 := GnOk2.n ok; have h2 := gn_len t; exact h2 ▸ h1
    refine (gput_any (gkm_flat hP) (GnOk2.ok ok) (by omega) (GnOk2.m ok) v h hk hv).mono ?_
    rintro e w' ⟨he, t', e1, hN, hS⟩
    exact ⟨he, { t' with N := t.N + 1 }, by show (t'.a, t.N + 1) = (gnPut t.a i k v, t.N + 1); rw [e1], gkm_fold (gnK_more hS hN)⟩
theorem gnDo_eq (room Bm Be : Nat) (d : DoV) (a : GnA × Nat) : (((gnKm room Bm Be).step d a).1, ((gnKm room Bm Be).step d a).2.1) = gnDo room d a.1 ∧ ((gnKm room Bm Be).step d a).2.2 ≤ a.2 + 1 := by
  have he : ∀ v at_, (gnKm room Bm Be).fErr a v at_ = gnErr a.1 v at_ := fun _ _ => rfl
  unfold MemK.step gnDo
  by_cases hw : wrongM d ≠ 0
  · rw [if_pos hw, if_pos hw]; exact ⟨rfl, Nat.le_succ _⟩
  rw [if_neg hw, if_neg hw]
  unfold MemK.kstep gnKst
  by_cases h1 : d.k = 1
  · rw [if_pos h1, if_pos h1]
    by_cases hc : (gnNew room a.1 d.n.toNat).2.2 ≠ 0
    · rw [if_pos (show ((gnKm room Bm Be).new_ a d.n.toNat).2.2 ≠ 0 from hc), if_pos hc]; exact ⟨rfl, Nat.le_succ _⟩
    · rw [if_neg (show ¬ ((gnKm room Bm Be).new_ a d.n.toNat).2.2 ≠ 0 from hc), if_neg hc]; exact ⟨rfl, Nat.le_succ _⟩
  rw [if_neg h1, if_neg h1]
  by_cases h2 : d.k = 2
  · rw [if_pos h2, if_pos h2]; exact ⟨rfl, Nat.le_succ _⟩
  rw [if_neg h2, if_neg h2]
  by_cases h3 : d.k = 3
  · rw [if_pos h3, if_pos h3]; exact ⟨rfl, Nat.le_succ _⟩
  rw [if_neg h3, if_neg h3]
  by_cases h4 : d.k = 4
  · rw [if_pos h4, if_pos h4, he]
    by_cases hc : gnErr a.1 (rgA a.1.regs d.to) d.at_ ≠ 0
    · rw [if_pos (show gnErr a.1 (rgA ((gnKm room Bm Be).regs a) d.to) d.at_ ≠ 0 from hc), if_pos hc]; exact ⟨rfl, Nat.le_succ _⟩
    · rw [if_neg (show ¬ gnErr a.1 (rgA ((gnKm room Bm Be).regs a) d.to) d.at_ ≠ 0 from hc), if_neg hc]; exact ⟨rfl, Nat.le_refl _⟩
  rw [if_neg h4, if_neg h4]
  by_cases h5 : d.k = 5
  · rw [if_pos h5, if_pos h5, he]
    by_cases hc : gnErr a.1 (rgA a.1.regs d.fr) d.at_ ≠ 0
    · rw [if_pos (show gnErr a.1 (rgA ((gnKm room Bm Be).regs a) d.fr) d.at_ ≠ 0 from hc), if_pos hc]; exact ⟨rfl, Nat.le_succ _⟩
    · rw [if_neg (show ¬ gnErr a.1 (rgA ((gnKm room Bm Be).regs a) d.fr) d.at_ ≠ 0 from hc), if_neg hc]; exact ⟨rfl, Nat.le_succ _⟩
  rw [if_neg h5, if_neg h5]
  by_cases h6 : d.k = 6
  · rw [if_pos h6, if_pos h6]; exact ⟨rfl, Nat.le_succ _⟩
  · rw [if_neg h6, if_neg h6]; exact ⟨rfl, Nat.le_succ _⟩
theorem gndo_any {room Bm Be : Nat} {t : GnT} {F : Nat → Prop} {W0 w : World} {L : List Item} (h : Sep F W0 w ((gnKm room Bm Be).item t :: L)) (ok : GnOk t.a) (hn : t.a.objs.length < 500) (hN : t.N ≤ 100000) (d : DoV) :
    Calls Try.prog 43 #[.pointer (some ⟨Bm, 0, none⟩), .agg d.cells] w fun e w' => ∃ (oc : Int) (orf : Bool) (on : Int) (t' : GnT), e = .returned (.agg #[.int .i64 oc, .bool orf, .int .i64 on]) ∧ gnDo room d t.a = (⟨oc, orf, on⟩, t'.a) ∧ t'.N ≤ t.N + 1 ∧ Sep F W0 w' ((gnKm room Bm Be).item t' :: L) := by
  refine (kdo_any (gnKm room Bm Be) (gnKm_ok room Bm Be) (s := t) (h.get 0 rfl) ⟨ok, hn, hN⟩ d).mono ?_
  rintro e w' ⟨rfl, t', hab, hS⟩
  obtain ⟨e1, e2⟩ := gnDo_eq room Bm Be d (t.a, t.N)
  have e3 : ((gnKm room Bm Be).step d (t.a, t.N)).2 = (t'.a, t'.N) := hab.symm
  rw [e3] at e1 e2
  exact ⟨_, _, _, t', rfl, e1.symm, e2, h.call 0 rfl hS⟩
theorem gnminor_km {room Bm Be : Nat} {t : GnT} {F : Nat → Prop} {W0 w : World} {L : List Item} (h : Sep F W0 w ((gnKm room Bm Be).item t :: L)) (ok : GnOk t.a) (hn : t.a.objs.length < 500) :
    Calls Try.prog 87 #[.pointer (some ⟨Be, 0, none⟩)] w fun e w' => (∃ u, e = .returned u) ∧ ∃ t' : GnT, t'.a = t.a.minor ∧ t'.N ≤ t.N ∧ Sep F W0 w' ((gnKm room Bm Be).item t' :: L) := by
  have hl := gn_len t
  refine (gminor_any (gkm_flat (h.get 0 rfl)) ok (by omega)).mono ?_
  rintro e w' ⟨he, t', e1, hN, hS⟩
  exact ⟨he, t', e1, hN, h.call 0 rfl (gkm_fold hS)⟩
theorem gnmajor_km {room Bm Be : Nat} {t : GnT} {F : Nat → Prop} {W0 w : World} {L : List Item} (h : Sep F W0 w ((gnKm room Bm Be).item t :: L)) (ok : GnOk t.a) (hn : t.a.objs.length < 500) :
    Calls Try.prog 88 #[.pointer (some ⟨Be, 0, none⟩)] w fun e w' => (∃ u, e = .returned u) ∧ ∃ t' : GnT, t'.a = t.a.major ∧ t'.N ≤ t.N ∧ Sep F W0 w' ((gnKm room Bm Be).item t' :: L) := by
  have hl := gn_len t
  refine (gmajor_any (gkm_flat (h.get 0 rfl)) ok (by omega)).mono ?_
  rintro e w' ⟨he, t', e1, hN, hS⟩
  exact ⟨he, t', e1, hN, h.call 0 rfl (gkm_fold hS)⟩
end Go.Proofs.Ytjphckfbbiehdaa

namespace Go.Proofs.Ytjphckfbbiehdaa
open Go.RowKit
theorem run_copy_rowN {P : Program} (w : World) (dT sT ty elem : TypeId) (z n g o dLen dCap : Nat) (a : Addr) (sLen sCap : Nat) (cur : Array Value) (t : TypeId) (cs : List Value)
    (hu : P.underlying dT = some (.slice elem)) (hs : (P.info? elem).map (·.size) = some z)
    (hg : w.heap[g]? = some (.cells cur t (0, 0))) (hm : Nat.min sLen dLen = n) (hn : cs.length = n * z)
    (hsrc : ∀ j v, cs[j]? = some v → w.cell? (a.add j) = some v) (hfit : o + cs.length ≤ cur.size) (h1 : ∀ v ∈ cs, v.oneCell' = true) :
    (Builtin.copy_ #[dT, sT] ty #[.slice (some ⟨g, o, none⟩) dLen dCap, .slice (some a) sLen sCap]).run P w =
      .ok (goInt n) (w.setRow g (cur.toList.take o ++ cs ++ cur.toList.drop (o + cs.length)).toArray) := by
  have hl := run_loadCells_list (P := P) w a cs hsrc
  have hst := run_storeCells_at P g o t cs 0 cur w hg (by simpa using hfit) h1
  cases hq : P.info? elem with
  | none => simp [hq] at hs
  | some i =>
    have hi : i.size = z := by simpa [hq] using hs
    rw [hn] at hl
    simp [Builtin.copy_, run_underlying hu, Builtin.lenOf, Builtin.firstCells, sizeOf, typeInfo, hq, hi, hm, hl, hst]
theorem run_copy_noneN {P : Program} (w : World) (dT sT ty elem : TypeId) (z dLen dCap sCap : Nat) (dp sp : Option Addr)
    (hu : P.underlying dT = some (.slice elem)) (hs : (P.info? elem).map (·.size) = some z) :
    (Builtin.copy_ #[dT, sT] ty #[.slice dp dLen dCap, .slice sp 0 sCap]).run P w = .ok (goInt 0) w := by
  cases hq : P.info? elem with
  | none => simp [hq] at hs
  | some i =>
    have hi : i.size = z := by simpa [hq] using hs
    cases dp <;> cases sp <;> simp [Builtin.copy_, run_underlying hu, Builtin.lenOf, Builtin.firstCells, sizeOf, typeInfo, hq, hi, storeCells, loadCells, loadCellsFrom]
theorem vSize : (Try.prog.info? 107).map (·.size) = some 2 := by kernel_rfl
theorem vals_rep (n : Nat) (hn : n ≤ 8) : (vals (zeroVs 8)).drop (n * 2) = vals (List.replicate (8 - n) (false, 0)) := by
  rcases (show n = 0 ∨ n = 1 ∨ n = 2 ∨ n = 3 ∨ n = 4 ∨ n = 5 ∨ n = 6 ∨ n = 7 ∨ n = 8 from by omega) with rfl | rfl | rfl | rfl | rfl | rfl | rfl | rfl | rfl <;> rfl
end Go.Proofs.Ytjphckfbbiehdaa
