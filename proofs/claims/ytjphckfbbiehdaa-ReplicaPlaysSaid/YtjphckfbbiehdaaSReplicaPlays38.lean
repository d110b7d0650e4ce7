/- The reference of a memory that is copied: a script. -/
import Derived.Test.YtjphckfbbiehdaaSReplicaPlays37
import Derived.Test.YtjphckfbbiehdaaSReplicaPlays34
import Derived.Deep.DeepCutAuto
set_option linter.unusedSimpArgs false
set_option linter.unusedVariables false
namespace Go.Proofs.Ytjphckfbbiehdaa
open Go.RowKit
def RqT.rw (t : RqT) (A : Option Addr) (c : Nat) (x : Int) : RqT := { t with row := t.row ++ [x], Ar := A, cr := c }
theorem rq_row {F : Nat → Prop} {W0 w : World} {Bc : Nat} {t : RqT} {pre : List Item} {A : Option Addr} {c : Nat} {z : Int} (h : Sep F W0 w (pre ++ [rmI t.Bm t.m, blkI Bc 194 (rqC t), rowI 3 1 A (t.row.length + 1) c (ints t.row ++ [.int .i64 z]), rowI 3 1 t.Am t.made.length t.cm (ints t.made), sufI 3 1 t.Ao t.log.length t.co (log1 t.log), sufI 3 1 t.Af t.log.length t.cf (log2 t.log)])) :
    Sep F W0 (w.setCell ⟨Bc, 1, none⟩ (.slice A (t.row.length + 1) c)) (pre ++ rqR Bc (t.rw A c z)) := by
  have h1 := h.set_ (pre.length + 1) (g := Bc) (t := 194) (cs := rqC t) (by rw [List.getElem?_append_right (by omega)]; simp) 1 (.slice A (t.row.length + 1) c)
  rw [List.set_append_right _ _ (by omega), show pre.length + 1 - pre.length = 1 from by omega] at h1
  have e : rqR Bc (t.rw A c z) = [rmI t.Bm t.m, blkI Bc 194 ((rqC t).setIfInBounds 1 (.slice A (t.row.length + 1) c)), rowI 3 1 A (t.row.length + 1) c (ints t.row ++ [.int .i64 z]), rowI 3 1 t.Am t.made.length t.cm (ints t.made), sufI 3 1 t.Ao t.log.length t.co (log1 t.log), sufI 3 1 t.Af t.log.length t.cf (log2 t.log)] := by
    unfold rqR rqC RqT.rw
    dsimp only
    rw [List.length_append, List.length_singleton]
    simp [ints]
  rw [e]
  exact h1
theorem rangeI_succ (n : Nat) : rangeI (n + 1) = rangeI n ++ [(n : Int)] := by unfold rangeI; rw [List.range_succ, List.map_append]; rfl
theorem rangeI_len (n : Nat) : (rangeI n).length = n := by unfold rangeI; rw [List.length_map, List.length_range]
theorem perm8q {α : Type} (a b c d e f g h : α) : [a, b, c, d, e, f, g, h].Perm [g, h, f, e, a, b, c, d] := by
  classical
  rw [List.perm_iff_count]
  intro x
  simp only [List.count_cons, List.count_nil]
  omega
theorem Sep.addE {F : Nat → Prop} {W w : World} {items : List Item} (h : Sep F W w items) (i : Item) (hP : i.P w) (hf : ∀ g, ¬ i.fp g) : Sep F W w (i :: items) :=
  h.consNew (Below.refl _ w) i hP (fun g hg => absurd hg (hf g))
def rqT0 (Bm : Nat) (m : RMem) : RqT := ⟨Bm, m, none, 0, [], none, 0, [], 0, none, 0, none, 0, [], 0⟩
theorem rq_start {F : Nat → Prop} {W w : World} {Bc Bm : Nat} {m : RMem} {G1 G2 : Item} (h : Sep F W w [blkI Bc 194 #[.pointer (some ⟨Bm, 0, none⟩), .slice none 0 0, .slice none 0 0, .int .i64 0, .slice none 0 0, .slice none 0 0, .int .i64 0], rmI Bm m, G1, G2]) : Sep F W w ([G1, G2] ++ rqR Bc (rqT0 Bm m)) := by
  have h1 := (((h.addE (sufI 3 1 none 0 0 []) (suf_nil _ _ _) (fun g hg => by cases hg)).addE (sufI 3 1 none 0 0 []) (suf_nil _ _ _) (fun g hg => by cases hg)).addE (rowI 3 1 none 0 0 []) (by exact World.ownsRow_nil _ _ _ _) (fun g hg => by cases hg)).addE (rowI 3 1 none 0 0 []) (by exact World.ownsRow_nil _ _ _ _) (fun g hg => by cases hg)
  exact h1.perm (perm8q _ _ _ _ _ _ _ _)
theorem bp_named {P : Program} {f : Func} {K : Ending → World → Prop} {e : Exit} {a : Act} {w : World} (h : ∀ X, w = X → bodyPost P f K e a X) : bodyPost P f K e a w := h w rfl
def RqT.lg (t : RqT) (A1 A2 : Option Addr) (c1 c2 : Nat) (o k : Nat) : RqT := { t with log := t.log ++ [(o, k)], Ao := A1, co := c1, Af := A2, cf := c2 }
theorem log1_app (l : List (Nat × Nat)) (o k : Nat) : log1 (l ++ [(o, k)]) = log1 l ++ [.int .i64 (o : Int)] := by simp [log1]
theorem log2_app (l : List (Nat × Nat)) (o k : Nat) : log2 (l ++ [(o, k)]) = log2 l ++ [.int .i64 (k : Int)] := by simp [log2]
theorem rq_lg {F : Nat → Prop} {W0 w : World} {Bc : Nat} {t : RqT} {pre : List Item} {A1 A2 : Option Addr} {c1 c2 n o k : Nat} (hn : t.log.length = n) (h : Sep F W0 w (pre ++ [rmI t.Bm t.m, blkI Bc 194 ((rqC t).setIfInBounds 4 (.slice A1 (n + 1) c1)), rowI 3 1 t.Ar t.row.length t.cr (ints t.row), rowI 3 1 t.Am t.made.length t.cm (ints t.made), sufI 3 1 A1 (n + 1) c1 (log1 t.log ++ [.int .i64 (o : Int)]), sufI 3 1 A2 (n + 1) c2 (log2 t.log ++ [.int .i64 (k : Int)])])) :
    Sep F W0 (w.setCell ⟨Bc, 5, none⟩ (.slice A2 (n + 1) c2)) (pre ++ rqR Bc (t.lg A1 A2 c1 c2 o k)) := by
  subst hn
  have h1 := h.set_ (pre.length + 1) (g := Bc) (t := 194) (cs := (rqC t).setIfInBounds 4 (.slice A1 (t.log.length + 1) c1)) (by rw [List.getElem?_append_right (by omega)]; simp) 5 (.slice A2 (t.log.length + 1) c2)
  rw [List.set_append_right _ _ (by omega), show pre.length + 1 - pre.length = 1 from by omega] at h1
  have e : rqR Bc (t.lg A1 A2 c1 c2 o k) = [rmI t.Bm t.m, blkI Bc 194 (((rqC t).setIfInBounds 4 (.slice A1 (t.log.length + 1) c1)).setIfInBounds 5 (.slice A2 (t.log.length + 1) c2)), rowI 3 1 t.Ar t.row.length t.cr (ints t.row), rowI 3 1 t.Am t.made.length t.cm (ints t.made), sufI 3 1 A1 (t.log.length + 1) c1 (log1 t.log ++ [.int .i64 (o : Int)]), sufI 3 1 A2 (t.log.length + 1) c2 (log2 t.log ++ [.int .i64 (k : Int)])] := by
    unfold rqR rqC RqT.lg
    dsimp only
    rw [List.length_append, List.length_singleton, log1_app, log2_app]
    simp
  rw [e]
  exact h1
theorem rq_lg1 {F : Nat → Prop} {W0 w : World} {Bc : Nat} {t : RqT} {pre L : List Item} {v : Value} (h : Sep F W0 w (pre ++ rmI t.Bm t.m :: blkI Bc 194 (rqC t) :: L)) : Sep F W0 (w.setCell ⟨Bc, 4, none⟩ v) (pre ++ rmI t.Bm t.m :: blkI Bc 194 ((rqC t).setIfInBounds 4 v) :: L) := by
  have h1 := h.set_ (pre.length + 1) (g := Bc) (t := 194) (cs := rqC t) (by rw [List.getElem?_append_right (by omega)]; simp) 4 v
  rw [List.set_append_right _ _ (by omega), show pre.length + 1 - pre.length = 1 from by omega] at h1
  exact h1
theorem rq_mem {F : Nat → Prop} {W0 w : World} {Bc Bm : Nat} {t : RqT} {m' : RMem} {pre : List Item} (hB : t.Bm = Bm) (h : Sep F W0 w ((pre ++ rqR Bc t).set pre.length (rmI Bm m'))) : Sep F W0 w (pre ++ rqR Bc { t with m := m' }) := by
  subst hB
  rw [List.set_append_right _ _ (Nat.le_refl _), Nat.sub_self] at h
  exact h
theorem rq_do_o {t : RqT} {d : DoV} {s' : RMem} {o : OutV} {σ' : MSt} (h : stepK d (absR t.m) = (o, σ')) (hs : absR s' = σ') (h1 : d.k ≠ 1) (h4 : d.k ≠ 4) : ({ t with m := s' } : RqT).a = t.a.do_ d := by
  unfold RqA.do_
  rw [if_neg h4, if_neg h1, show stepK d t.a.σ = (o, σ') from h, ← hs]
  rfl
theorem rq_do_n {t : RqT} {d : DoV} {s' : RMem} {o : OutV} {σ' : MSt} {A : Option Addr} {c N : Nat} (hN : t.m.obs.length = N) (h : stepK d (absR t.m) = (o, σ')) (hs : absR s' = σ') (h1 : d.k = 1) : (({ t with m := s' } : RqT).rw A c (N : Int)).a = t.a.do_ d := by
  unfold RqA.do_
  rw [if_pos h1, if_neg (show ¬ d.k = 4 by omega), show stepK d t.a.σ = (o, σ') from h, ← hs, show t.a.σ.objs.length = t.m.obs.length from List.length_map .., hN]
  rfl
theorem rq_do_p {t : RqT} {d : DoV} {s' : RMem} {o : OutV} {σ' : MSt} {A1 A2 : Option Addr} {c1 c2 i k : Nat} (h : stepK d (absR t.m) = (o, σ')) (hs : absR s' = σ') (h4 : d.k = 4) (hi : (rgA t.m.regs d.to).2 = (i : Int)) (hk : d.at_ = (k : Int)) : ({ t.lg A1 A2 c1 c2 i k with m := s' } : RqT).a = t.a.do_ d := by
  unfold RqA.do_
  rw [if_pos h4, if_neg (show ¬ d.k = 1 by omega), show stepK d t.a.σ = (o, σ') from h, ← hs, show rgA t.a.σ.regs d.to = rgA t.m.regs d.to from rfl, hi, hk]
  rfl
set_option maxRecDepth 1000000 in
set_option maxHeartbeats 64000000 in
theorem refReplicated_any (w : World) (AO AR Ad : Option Addr) (nO cO nR cR nd cd : Nat) (obs : List Ob) (roots : List Val) (gs : List (List Val)) (ds : List DoV) (hgs : obs.map Ob.fields = gs) (hO : ObsRd w (fun _ => True) AO nO obs) (hR : Rd w (fun _ => True) 2 AR nR (vals roots)) (hnO : nO ≤ 24) (hnR : nR ≤ 8) (h4 : ∀ o ∈ obs, o.n ≤ 4)
    (hOK : ∀ k, k ≤ ds.length → RqOk (rqRun (ds.take k) (rq0 ⟨padR roots nR, gs⟩)).2) (hD : Rd w (fun _ => True) 5 Ad nd (dosV ds)) (hnd : nd ≤ 100) :
    Calls Try.prog 37 #[.agg #[.slice AO nO cO, .slice AR nR cR], .slice Ad nd cd] w fun e w' => ∃ A c A2 n2 c2, e = .returned (.agg #[.slice A nd c, .slice A2 n2 c2, .int .i64 (rqRun ds (rq0 ⟨padR roots nR, gs⟩)).2.made.length, .int .i64 (rqRun ds (rq0 ⟨padR roots nR, gs⟩)).2.log.length, .int .i64 (rqRun ds (rq0 ⟨padR roots nR, gs⟩)).2.times]) ∧ Below w.heap.size w w' ∧ Rd w' (fun g => w.heap.size ≤ g) 3 A nd (outsV (rqRun ds (rq0 ⟨padR roots nR, gs⟩)).1) ∧ Rd w' (fun g => w.heap.size ≤ g) 1 A2 n2 (ints (rqRun ds (rq0 ⟨padR roots nR, gs⟩)).2.row) := by
  have HDL := hide (show ds.length = nd by have := hD.1; rw [dosV_length] at this; omega)
  have hgl : gs.length = nO := by rw [← hgs, List.length_map]; exact hO.len
  obtain ⟨g, hg⟩ : ∃ g, w.heap.size = g := ⟨_, rfl⟩
  have hS0 := ((Sep.nil No w).blkAt 27 #[.slice AO nO cO, .slice AR nR cR] hg).blkAt 85 #[.slice none 0 0, .slice none 0 0, .int .i64 0, .int .i64 0, .int .i64 0] (g := g + 1) (by simp [hg])
  have CN := hide (fun w' (hb : Below w.heap.size w w') => newMem_any w' AO AR nO cO nR cR obs roots gs hgs (hO.below hb) (hR.below hb) (by omega) hnR h4)
  obtain ⟨σ0, hσ⟩ : ∃ σ, (⟨padR roots nR, gs⟩ : MSt) = σ := ⟨_, rfl⟩
  rw [hσ] at hOK ⊢
  simp only [hσ] at CN
  have HSO := hide (show σ0.objs.length = nO by rw [← hσ]; exact hgl)
  have HOK := hide hOK
  obtain ⟨a1, a2, a3, a4⟩ := hS0.rules 0 (g := g) (t := 27) rfl
  have a5 := (a1 0).trans (show _ = some (.slice AO nO cO) from rfl)
  have a6 := (a1 1).trans (show _ = some (.slice AR nR cR) from rfl)
  have HS0 := hide hS0
  have CN0 := hide (CN.out _ hS0.below_)
  clear hgs hO hR h4 hgl hS0 hσ hOK a1 a4 CN
  go_enter Try.func37, Try.ntmps37
  go_wp2_with fail
  refine CN0.out.mono ?_
  rintro e w1 ⟨Bm, m0, rfl, hab, hgn, hP1⟩
  obtain ⟨Bc, hBc⟩ : ∃ x, w1.heap.size = x := ⟨_, rfl⟩
  have hS1 := (row_new HS0.out hP1).blkAtF 194 #[.pointer (some ⟨Bm, 0, none⟩), .slice none 0 0, .slice none 0 0, .int .i64 0, .slice none 0 0, .slice none 0 0, .int .i64 0] hBc
  have HS1 := hide (rq_start hS1)
  have HK0 := hide (show (rqT0 Bm m0).a = { rq0 σ0 with row := rangeI 0 } ∧ (rqT0 Bm m0).m.gone.length = (rqT0 Bm m0).m.obs.length from ⟨by
    unfold RqT.a rqT0 rq0
    dsimp only
    rw [hab]; rfl, by
    show m0.gone.length = m0.obs.length
    have h1 := congrArg (fun σ : MSt => σ.objs.length) hab
    rw [show (absR m0).objs.length = m0.obs.length from List.length_map ..] at h1
    rw [hgn, List.length_replicate, h1, HSO.out]⟩)
  clear hP1 hS1 hab hgn HS0 CN0 a2 a3 a5 a6
  go_wp2_with fail
  go_loopw [6] (fun q wr => ∃ (i : Nat) (t : RqT), i ≤ nO ∧ q = .int .i64 i ∧ Hid (t.a = { rq0 σ0 with row := rangeI i } ∧ t.m.gone.length = t.m.obs.length) ∧ Sep No w wr ([blkI g 27 #[.slice AO nO cO, .slice AR nR cR], blkI (g + 1) 85 #[.slice none 0 0, .slice none 0 0, .int .i64 0, .int .i64 0, .int .i64 0]] ++ rqR Bc t)) (fun q _ => nO - (intOf q).toNat)
  case atStart => exact ⟨0, rqT0 Bm m0, by omega, rfl, HK0.out, HS1.out⟩
  case round =>
    clear HS1 HK0
    obtain ⟨i, t, hi, rfl, HI, hS⟩ := hrel
    obtain ⟨hab, hgk⟩ := HI.out
    obtain ⟨l1, l2, l3, _⟩ := hS.rules 0 (g := g) (t := 27) rfl
    have l5 := (l1 0).trans (show _ = some (.slice AO nO cO) from rfl)
    have hrl : t.row.length = i := by
      have h1 := congrArg (fun r : RqA => r.row.length) hab
      exact h1.trans (rangeI_len i)
    by_cases hlt : i < nO
    · obtain ⟨-, k1, -, -, -, -, -, k7, k8⟩ := rq_cells (pre := [_, _]) hS
      rw [hrl] at k1
      have HRL := hide hrl
      have HS := hide (show Sep No w wr [blkI g 27 #[.slice AO nO cO, .slice AR nR cR], blkI (g + 1) 85 #[.slice none 0 0, .slice none 0 0, .int .i64 0, .int .i64 0, .int .i64 0], rmI t.Bm t.m, blkI Bc 194 (rqC t), rowI 3 1 t.Ar i t.cr (ints t.row), rowI 3 1 t.Am t.made.length t.cm (ints t.made), sufI 3 1 t.Ao t.log.length t.co (log1 t.log), sufI 3 1 t.Af t.log.length t.cf (log2 t.log)] from by rw [← hrl]; exact hS)
      have HNX := hide (fun (A : Option Addr) (c : Nat) => show (t.rw A c (i : Int)).a = { rq0 σ0 with row := rangeI (i + 1) } from by
        rw [rangeI_succ]
        have e : (t.rw A c (i : Int)).a = { t.a with row := t.a.row ++ [(i : Int)] } := rfl
        rw [e, hab])
      have HGK := hide hgk
      clear hab hgk l1 hS HI hrl
      go_wp2_with (first
        | (at_builtin
           refine wpList_app1 (cs := #[.int .i64 (i : Int)]) rfl (.tmp 26) (.tmp 28) 35 rfl (F := No) (W := w) sInt (items := _ :: _ :: _ :: _ :: _ :: _ :: _ :: _ :: _) HS.out 4 (n := i) rfl rfl rfl (by simp) rfl rfl (by omega) ?_
           intro A6 c6 w6 hS6 hC6
           obtain ⟨u1, u2, u3, -⟩ := hS6.rules 3 (g := Bc) (t := 194) rfl
           (have u5 := (u1 1).trans (show _ = some (.slice t.Ar t.row.length t.cr) from rfl))))
      have hS7 := rq_row (pre := [_, _]) (A := A6) (c := c6) (z := (i : Int)) (by rw [HRL.out]; exact hS6)
      rw [HRL.out] at hS7
      have HS7 := hide hS7
      clear hS6 hC6 hS7 u1 HS
      go_roundw
      case rel => exact ⟨i + 1, t.rw A6 c6 (i : Int), by omega, by go_num, ⟨HNX.out A6 c6, HGK.out⟩, HS7.out⟩
      case measure => simp [intOf]; omega
    · obtain rfl : i = nO := by omega
      have HT0 := hide (show t.a = (rqRun (ds.take 0) (rq0 σ0)).2 from by
        rw [hab]
        show ({ rq0 σ0 with row := rangeI i } : RqA) = rq0 σ0
        unfold rq0
        rw [HSO.out])
      have HGK := hide hgk
      obtain ⟨gO, hgO⟩ : ∃ x, wr.heap.size = x := ⟨_, rfl⟩
      have hS1 := (hS.nilRow0 41 3).blkAtF 85 #[.slice none 0 0, .slice none 0 0, .int .i64 0, .int .i64 0, .int .i64 0] hgO
      have HS := hide (show Sep No w _ ([blkI gO 85 #[.slice none 0 0, .slice none 0 0, .int .i64 0, .int .i64 0, .int .i64 0], rowI 41 3 none 0 0 [], blkI g 27 #[.slice AO i cO, .slice AR nR cR], blkI (g + 1) 85 #[.slice none 0 0, .slice none 0 0, .int .i64 0, .int .i64 0, .int .i64 0]] ++ rqR Bc t) from hS1)
      clear hab hgk l1 hS HI hrl hS1
      go_wp2_with fail
      go_loopw [35] (fun q wr => ∃ (k : Nat) (A : Option Addr) (c : Nat) (t : RqT), k ≤ nd ∧ q = .int .i64 k ∧ Hid (t.a = (rqRun (ds.take k) (rq0 σ0)).2 ∧ t.m.gone.length = t.m.obs.length) ∧ Sep No w wr ([blkI gO 85 #[.slice A k c, .slice none 0 0, .int .i64 0, .int .i64 0, .int .i64 0], rowI 41 3 A k c (outsV (rqRun (ds.take k) (rq0 σ0)).1), blkI g 27 #[.slice AO i cO, .slice AR nR cR], blkI (g + 1) 85 #[.slice none 0 0, .slice none 0 0, .int .i64 0, .int .i64 0, .int .i64 0]] ++ rqR Bc t)) (fun q _ => nd - (intOf q).toNat)
      case atStart => exact ⟨0, none, 0, t, by omega, rfl, ⟨HT0.out, HGK.out⟩, HS.out⟩
      case round =>
        clear HS HT0 HGK l2 l3 l5
        obtain ⟨k, A, c, t, hk, rfl, HI, hS⟩ := hrel
        obtain ⟨hab, hgk⟩ := HI.out
        have hok := HOK.out k (by have := HDL.out; omega)
        rw [← hab] at hok
        have HQ := hide hok
        have HROK := hide (show ROk t.m from ⟨hok.m, by have h1 := hok.n; rw [show t.a.σ.objs.length = t.m.obs.length from List.length_map ..] at h1; exact h1, hgk⟩)
        by_cases hlt : k < nd
        · have hkl : k < ds.length := by rw [HDL.out]; exact hlt
          obtain ⟨v0, v1, v2, v3, v4⟩ := dosV_at ds k hkl
          obtain ⟨ad, hA, _, had, hc, hd⟩ := (hD.below hS.below_).atN hlt
          have e0 := hc _ v0
          have e1 := hd 0 _ v1
          have e2 := hd 1 _ v2
          have e3 := hd 2 _ v3
          have e4 := hd 3 _ v4
          have hrs := rqRun_at ds (rq0 σ0) k hkl
          rw [← hab] at hrs
          obtain ⟨d, hd'⟩ : ∃ d, ds[k] = d := ⟨_, rfl⟩
          rw [hd'] at e0 e1 e2 e3 e4 hrs
          obtain ⟨gd, hgd⟩ : ∃ x, wr.heap.size = x := ⟨_, rfl⟩
          have hgO := hS.hi 0 rfl gO rfl
          have hS2 : Sep No w _ ([blkI (gd + 1) 41 #[.int .i64 0, .bool false, .int .i64 0], blkI gd 39 d.cells, blkI gO 85 #[.slice A k c, .slice none 0 0, .int .i64 0, .int .i64 0, .int .i64 0], rowI 41 3 A k c (outsV (rqRun (ds.take k) (rq0 σ0)).1), blkI g 27 #[.slice AO i cO, .slice AR nR cR], blkI (g + 1) 85 #[.slice none 0 0, .slice none 0 0, .int .i64 0, .int .i64 0, .int .i64 0]] ++ rqR Bc t) := (hS.blkAtF 39 d.cells hgd).blkAtF 41 #[.int .i64 0, .bool false, .int .i64 0] (g := gd + 1) (by simp [hgd])
          have HRS := hide hrs
          have HGK := hide hgk
          obtain ⟨dk, dto, dfr, dat, dn⟩ := d
          unfold DoV.cells at hS2
          dsimp only at hS2 e0 e1 e2 e3 e4
          obtain ⟨X, hX⟩ : ∃ X, (wr.alloc (.cells #[.int .i64 dk, .int .i64 dto, .int .i64 dfr, .int .i64 dat, .int .i64 dn] 39)).alloc (.cells #[.int .i64 0, .bool false, .int .i64 0] 41) = X := ⟨_, rfl⟩
          rw [hX] at hS2
          have HX := hide hX
          have HS2 := hide hS2
          subst hA
          clear hc hd v0 v1 v2 v3 v4 hrs hd' hS2 hS hok HI hkl hX hab hgk
          go_upto_region 11 with fail
          rw [HX.out]
          obtain ⟨z1, z2, z3, -⟩ := HS2.out.rules 1 (g := gd) (t := 39) rfl
          have z5 := (z1 0).trans (show _ = some (.int .i64 dk) from rfl)
          clear z1 HX e0 e1 e2 e3 e4 had hgd hgO
          go_upto_if 42 with fail
          go_cut [] (fun wx => ∃ (t2 : RqT) (oc : Int) (orf : Bool) (on : Int), Hid (rqRun (ds.take (k + 1)) (rq0 σ0) = ((rqRun (ds.take k) (rq0 σ0)).1 ++ [⟨oc, orf, on⟩], t2.a) ∧ t2.m.gone.length = t2.m.obs.length) ∧ Sep No w wx ([blkI (gd + 1) 41 #[.int .i64 oc, .bool orf, .int .i64 on], blkI gd 39 #[.int .i64 dk, .int .i64 dto, .int .i64 dfr, .int .i64 dat, .int .i64 dn], blkI gO 85 #[.slice A k c, .slice none 0 0, .int .i64 0, .int .i64 0, .int .i64 0], rowI 41 3 A k c (outsV (rqRun (ds.take k) (rq0 σ0)).1), blkI g 27 #[.slice AO i cO, .slice AR nR cR], blkI (g + 1) 85 #[.slice none 0 0, .slice none 0 0, .int .i64 0, .int .i64 0, .int .i64 0]] ++ rqR Bc t2))
          case rest =>
            clear z2 z3 z5 HS2 HRS HGK HQ HROK
            obtain ⟨t2, oc, orf, on, HR2, hS3⟩ := hcut
            obtain ⟨x1, x2, x3, -⟩ := hS3.rules 0 (g := gd + 1) (t := 41) rfl
            have x5 := (x1 0).trans (show _ = some (.int .i64 oc) from rfl)
            have x6 := (x1 1).trans (show _ = some (.bool orf) from rfl)
            have x7 := (x1 2).trans (show _ = some (.int .i64 on) from rfl)
            obtain ⟨u1, u2, u3, -⟩ := hS3.rules 2 (g := gO) (t := 85) rfl
            have u5 := (u1 0).trans (show _ = some (.slice A k c) from rfl)
            have HS3 := hide hS3
            clear hS3 x1 u1
            go_wp2_with (first
              | (at_builtin
                 refine wpList_app1 (cs := #[.int .i64 oc, .bool orf, .int .i64 on]) rfl (.tmp 135) (.tmp 137) 23 rfl (F := No) (W := w) sOut (items := _ :: _ :: _ :: _ :: _) HS3.out 3 (n := k) rfl rfl rfl (by simp) rfl rfl (by omega) ?_
                 intro A6 c6 w6 hS6 hC6
                 obtain ⟨u1, u2, u3, -⟩ := hS6.rules 2 (g := gO) (t := 85) rfl))
            have hS7 := hS6.set_ 2 (g := gO) (t := 85) rfl 0 (.slice A6 (k + 1) c6)
            have HS7 := hide ((hS7.sub (List.sublist_cons_self _ _)).sub (List.sublist_cons_self _ _))
            clear hS6 hC6 hS7 u1 HS3
            go_roundw
            case rel => exact ⟨k + 1, A6, c6, t2, by omega, by go_num, ⟨by rw [HR2.out.1], HR2.out.2⟩, by
              rw [HR2.out.1]
              dsimp only
              rw [outsV_app, outsV_one]
              exact HS7.out⟩
            case measure => simp [intOf]; omega
          case first =>
            by_cases h8 : dk = 8
            · have hst : rqStep ⟨dk, dto, dfr, dat, dn⟩ t.a = (⟨0, false, 0⟩, t.a.work) := by unfold rqStep; rw [if_pos h8]
              have hrs := HRS.out
              rw [hst] at hrs
              have HRS2 := hide hrs
              have CW := hide (rqwork_any (x := allI [_, _, _, _, _, _]) (Sep.join (l := [_, _, _, _, _, _]) HS2.out) HQ.out)
              have y8 : (dk == 8) = true := by simp [h8]
              clear hst hrs HRS
              go_wp2_with fail
              refine CW.out.mono ?_
              rintro e w4 ⟨⟨u, rfl⟩, t2, hcw, hmm, hS4⟩
              have HS4 := hide (Sep.split (l := [_, _, _, _, _, _]) hS4)
              have HCW := hide hcw
              have HMM := hide hmm
              clear hcw hmm hS4 CW
              go_wp2_with fail
              go_meet
              case rel => exact ⟨t2, 0, false, 0, ⟨by rw [HRS2.out, HCW.out], by rw [HMM.out]; exact HGK.out⟩, HS4.out⟩
            · have y8 : (dk == 8) = false := by simp [h8]
              have CW := rwrong_any (HS2.out.drew.get 6 rfl) HROK.out ⟨dk, dto, dfr, dat, dn⟩
              unfold DoV.cells at CW
              dsimp only at CW
              obtain ⟨k0, k1, -, -, -, -, -, k7, k8⟩ := rq_cells (pre := [_, _, _, _, _, _]) HS2.out
              obtain ⟨z1, -, -, -⟩ := HS2.out.rules 1 (g := gd) (t := 39) rfl
              have z6 := (z1 1).trans (show _ = some (.int .i64 dto) from rfl)
              have z7 := (z1 2).trans (show _ = some (.int .i64 dfr) from rfl)
              have z8 := (z1 3).trans (show _ = some (.int .i64 dat) from rfl)
              have z9 := (z1 4).trans (show _ = some (.int .i64 dn) from rfl)
              obtain ⟨x1, x2, x3, -⟩ := HS2.out.rules 0 (g := gd + 1) (t := 41) rfl
              have x5 := (x1 0).trans (show _ = some (.int .i64 0) from rfl)
              have HCW := hide CW
              have n5 : gd + 1 ≠ gd := by omega
              have n6 : gd ≠ gd + 1 := by omega
              clear z1 x1 CW h8
              go_upto_region 13 with fail
              obtain ⟨x, hx⟩ : ∃ x, rWrong ⟨dk, dto, dfr, dat, dn⟩ (absR t.m) = x := ⟨_, rfl⟩
              rw [hx] at HCW
              have HXW := hide hx
              clear hx
              go_cut [] (fun wx => Sep No w wx ([blkI (gd + 1) 41 #[.int .i64 x, .bool false, .int .i64 0], blkI gd 39 #[.int .i64 dk, .int .i64 dto, .int .i64 dfr, .int .i64 dat, .int .i64 dn], blkI gO 85 #[.slice A k c, .slice none 0 0, .int .i64 0, .int .i64 0, .int .i64 0], rowI 41 3 A k c (outsV (rqRun (ds.take k) (rq0 σ0)).1), blkI g 27 #[.slice AO i cO, .slice AR nR cR], blkI (g + 1) 85 #[.slice none 0 0, .slice none 0 0, .int .i64 0, .int .i64 0, .int .i64 0]] ++ rqR Bc t))
              case first =>
                go_region_law (first
                  | (try go_simp
                     go_at_call 78
                     (with_reducible refine HCW.out.mono ?_)
                     rintro e w8 ⟨rfl, hb8⟩
                     (have hS8 := HS2.out.drew.below hb8)
                     obtain ⟨q1, q2, q3, -⟩ := hS8.rules 0 (g := gd + 1) (t := 41) rfl
                     (have q5 := (q1 0).trans (show _ = some (.int .i64 0) from rfl))
                     (have HS8 := hide hS8)
                     clear hS8 hb8 q1))
                all_goals
                  go_wp2_with fail
                  go_meet
                  case rel => exact HS8.out.set_ 0 (g := gd + 1) (t := 41) rfl 0 (.int .i64 x)
              case rest =>
                have HSX := hide hcut
                obtain ⟨x1, x2, x3, -⟩ := hcut.rules 0 (g := gd + 1) (t := 41) rfl
                have x5 := (x1 0).trans (show _ = some (.int .i64 x) from rfl)
                obtain ⟨z1, z2, z3, -⟩ := hcut.rules 1 (g := gd) (t := 39) rfl
                have z5 := (z1 0).trans (show _ = some (.int .i64 dk) from rfl)
                obtain ⟨k0, k1, -, -, -, -, -, k7, k8⟩ := rq_cells (pre := [_, _, _, _, _, _]) hcut
                have z2x := z1
                clear hcut x1 z1 HS2 HCW z6 z7 z8 z9
                by_cases hx0 : x = 0
                · subst hx0
                  have z6 := (z2x 1).trans (show _ = some (.int .i64 dto) from rfl)
                  have z7 := (z2x 2).trans (show _ = some (.int .i64 dfr) from rfl)
                  have z8 := (z2x 3).trans (show _ = some (.int .i64 dat) from rfl)
                  have z9 := (z2x 4).trans (show _ = some (.int .i64 dn) from rfl)
                  clear z2x
                  have HST := hide (show rqStep ⟨dk, dto, dfr, dat, dn⟩ t.a = (if 24 ≤ t.row.length ∧ dk = 1 then (⟨6, false, 0⟩, t.a) else ((stepK ⟨dk, dto, dfr, dat, dn⟩ (absR t.m)).1, t.a.do_ ⟨dk, dto, dfr, dat, dn⟩)) from by
                    unfold rqStep
                    rw [if_neg (by intro h; rw [show dk = 8 from h] at y8; cases y8)]
                    have he : rqErr ⟨dk, dto, dfr, dat, dn⟩ t.a = if 24 ≤ t.row.length ∧ dk = 1 then 6 else 0 := by
                      unfold rqErr
                      rw [show rWrong ⟨dk, dto, dfr, dat, dn⟩ t.a.σ = 0 from HXW.out]
                      by_cases h : 24 ≤ t.row.length ∧ dk = 1
                      · rw [if_pos h, if_pos ⟨rfl, h.2, h.1⟩]
                      · rw [if_neg h, if_neg (fun h2 => h ⟨h2.2.2, h2.2.1⟩)]
                    rw [he]
                    by_cases h : 24 ≤ t.row.length ∧ dk = 1
                    · rw [if_pos h, if_pos h, if_pos (by decide)]
                    · rw [if_neg h, if_neg h, if_neg (by simp)]
                      rfl)
                  obtain ⟨rl, hrl⟩ : ∃ m, t.row.length = m := ⟨_, rfl⟩
                  have HRL := hide hrl
                  rw [hrl] at k1 HST
                  by_cases hfull : 24 ≤ rl ∧ dk = 1
                  · have hrs := HRS.out
                    rw [HST.out, if_pos hfull] at hrs
                    have HRS2 := hide hrs
                    obtain ⟨hR, hk1⟩ := hfull
                    subst hk1
                    have t1 : decide ((24 : Int) ≤ (rl : Int)) = true := by simp; omega
                    have t2 : decide (24 ≤ rl) = true := by simp; omega
                    clear hrs HRS HST hR hrl
                    go_wp2_with fail
                    go_meet
                    case rel => exact ⟨t, 6, false, 0, ⟨HRS2.out, HGK.out⟩, HSX.out.set_ 0 (g := gd + 1) (t := 41) rfl 0 (.int .i64 6)⟩
                  · have hrs := HRS.out
                    rw [HST.out, if_neg hfull] at hrs
                    have HRS2 := hide hrs
                    clear hrs HRS HST
                    by_cases hk1 : dk = 1
                    · subst hk1
                      have hR : rl < 24 := by
                        rcases Nat.lt_or_ge rl 24 with h1 | h1
                        · exact h1
                        · exact absurd ⟨h1, rfl⟩ hfull
                      have t1 : decide ((24 : Int) ≤ (rl : Int)) = false := by simp; omega
                      have t2 : decide (24 ≤ rl) = false := by simp; omega
                      have HR24 := hide hR
                      clear hR hfull hrl
                      obtain ⟨N, hN⟩ : ∃ q, t.m.obs.length = q := ⟨_, rfl⟩
                      have HON := hide hN
                      have HN5 := hide (show N ≤ 500 from by rw [← hN]; exact HROK.out.n)
                      have HLN := hide (show (stepK ⟨1, dto, dfr, dat, dn⟩ (absR t.m)).2.objs.length = N + 1 from by rw [stepK_len, if_pos rfl, show (absR t.m).objs.length = t.m.obs.length from List.length_map .., hN])
                      clear hN

                      have CD := rdo_any (s := t.m) (HSX.out.drew.get 6 rfl) HROK.out ⟨1, dto, dfr, dat, dn⟩ HXW.out
                      unfold RDoOk at CD
                      obtain ⟨⟨⟨oc, orf, on⟩, σ'⟩, hsk⟩ : ∃ p, stepK ⟨1, dto, dfr, dat, dn⟩ (absR t.m) = p := ⟨_, rfl⟩
                      simp only [hsk] at CD HRS2
                      unfold OutV.val at CD
                      unfold DoV.cells at CD
                      dsimp only at CD HRS2
                      have HCD := hide CD
                      have HSK := hide hsk
                      clear CD hsk
                      go_upto_region 20 with fail
                      go_cut [] (fun wx => ∃ s' : RMem, Hid (absR s' = σ' ∧ s'.gone.length = s'.obs.length) ∧ Sep No w wx ([blkI (gd + 1) 41 #[.int .i64 oc, .bool orf, .int .i64 on], blkI gd 39 #[.int .i64 1, .int .i64 dto, .int .i64 dfr, .int .i64 dat, .int .i64 dn], blkI gO 85 #[.slice A k c, .slice none 0 0, .int .i64 0, .int .i64 0, .int .i64 0], rowI 41 3 A k c (outsV (rqRun (ds.take k) (rq0 σ0)).1), blkI g 27 #[.slice AO i cO, .slice AR nR cR], blkI (g + 1) 85 #[.slice none 0 0, .slice none 0 0, .int .i64 0, .int .i64 0, .int .i64 0]] ++ rqR Bc { t with m := s' }))
                      case first =>
                        go_region_law (first
                          | (try go_simp
                             go_at_call 81
                             (with_reducible refine HCD.out.mono ?_)
                             rintro e w8 ⟨s', rfl, hab, hP8, hgl, -⟩
                             (have hS8 := HSX.out.drew.call 6 rfl hP8)
                             obtain ⟨q1, q2, q3, -⟩ := hS8.rules 0 (g := gd + 1) (t := 41) rfl
                             (have q5 := (q1 0).trans (show _ = some (.int .i64 0) from rfl))
                             (have q6 := (q1 1).trans (show _ = some (.bool false) from rfl))
                             (have q7 := (q1 2).trans (show _ = some (.int .i64 0) from rfl))
                             (have HS8 := hide hS8)
                             (have HAB := hide (And.intro hab hgl))
                             clear hS8 hP8 hab hgl q1))
                        all_goals
                          go_wp2_with fail
                          go_meet
                          case rel => exact ⟨s', HAB.out, rq_mem (t := t) (pre := [_, _, _, _, _, _]) rfl (((HS8.out.set_ 0 (g := gd + 1) (t := 41) rfl 0 (.int .i64 oc)).set_ 0 (g := gd + 1) (t := 41) rfl 1 (.bool orf)).set_ 0 (g := gd + 1) (t := 41) rfl 2 (.int .i64 on))⟩
                      case rest =>
                        clear HCD HSX z2 z3 z5 z6 z7 z8 z9 x2 x3 x5
                        try clear k0
                        try clear k1
                        try clear k4
                        try clear k5
                        try clear k7
                        try clear k8
                        obtain ⟨s', HAB, hS9⟩ := hcut
                        obtain ⟨z1, z2, z3, -⟩ := hS9.rules 1 (g := gd) (t := 39) rfl
                        have z5 := (z1 0).trans (show _ = some (.int .i64 1) from rfl)
                        have HS9 := hide hS9
                        have hnl : s'.obs.length = N + 1 := by
                          have h1 := HLN.out
                          have h2 : (absR s').objs.length = s'.obs.length := List.length_map ..
                          rw [← h2, HAB.out.1]
                          rw [HSK.out] at h1
                          exact h1
                        obtain ⟨k0, k1, -, -, -, -, -, k7, k8⟩ := rq_cells (pre := [_, _, _, _, _, _]) hS9
                        dsimp only at k0 k1
                        rw [HRL.out] at k1
                        obtain ⟨-, m1, -, -, -⟩ := rm_mem (hS9.get 6 rfl)
                        obtain ⟨M, hM⟩ : ∃ q, s'.obs.length = q := ⟨_, rfl⟩
                        rw [hM] at m1 hnl
                        obtain ⟨sAo, hsAo⟩ : ∃ q, s'.Ao = q := ⟨_, rfl⟩
                        obtain ⟨sco, hsco⟩ : ∃ q, s'.co = q := ⟨_, rfl⟩
                        rw [hsAo, hsco] at m1
                        have HSR := hide (show Sep No w wc [blkI (gd + 1) 41 #[.int .i64 oc, .bool orf, .int .i64 on], blkI gd 39 #[.int .i64 1, .int .i64 dto, .int .i64 dfr, .int .i64 dat, .int .i64 dn], blkI gO 85 #[.slice A k c, .slice none 0 0, .int .i64 0, .int .i64 0, .int .i64 0], rowI 41 3 A k c (outsV (rqRun (ds.take k) (rq0 σ0)).1), blkI g 27 #[.slice AO i cO, .slice AR nR cR], blkI (g + 1) 85 #[.slice none 0 0, .slice none 0 0, .int .i64 0, .int .i64 0, .int .i64 0], rmI t.Bm s', blkI Bc 194 (rqC { t with m := s' }), rowI 3 1 t.Ar rl t.cr (ints t.row), rowI 3 1 t.Am t.made.length t.cm (ints t.made), sufI 3 1 t.Ao t.log.length t.co (log1 t.log), sufI 3 1 t.Af t.log.length t.cf (log2 t.log)] from by rw [← HRL.out]; exact hS9)
                        have e6 : IntKind.i64.wrap ((M : Int) - 1) = (N : Int) := by rw [wrapC64 _ (by omega) (by have := HN5.out; omega)]; omega
                        have HFA := hide (fun (A6 : Option Addr) (c6 : Nat) => rq_do_n (A := A6) (c := c6) HON.out HSK.out HAB.out.1 rfl)
                        have hmx : Try.prog.follows .mixedOrders = true := by kernel_rfl
                        clear z1 hS9 hM hnl hsAo hsco HS9
                        go_upto_region 22 with fail
                        go_region_law (first
                          | (refine step_app1 (cs := #[.int .i64 (N : Int)]) rfl (.tmp 120) (.tmp 130) 35 rfl (F := No) (W := w) sInt (items := _ :: _ :: _ :: _ :: _ :: _ :: _ :: _ :: _ :: _ :: _ :: _ :: _) HSR.out.drew 8 (n := rl) rfl rfl rfl (by simp) rfl rfl (by have := HR24.out; omega) ?_
                             intro A6 c6 w6 hS6 hC6
                             obtain ⟨u1, u2, u3, -⟩ := hS6.rules 7 (g := Bc) (t := 194) rfl
                             (have u5 := (u1 1).trans (show _ = some (.slice t.Ar t.row.length t.cr) from rfl))
                             clear u1 hC6)
                          | (refine step_app1d (cs := #[.int .i64 (N : Int)]) rfl (.tmp 120) (.tmp 130) 35 rfl (F := No) (W := w) sInt (items := _ :: _ :: _ :: _ :: _ :: _ :: _ :: _ :: _ :: _ :: _ :: _ :: _) HSR.out 8 (n := rl) rfl rfl rfl (by simp) rfl rfl (by have := HR24.out; omega) ?_
                             intro A6 c6 w6 hS6 hC6
                             obtain ⟨u1, u2, u3, -⟩ := hS6.rules 7 (g := Bc) (t := 194) rfl
                             (have u5 := (u1 1).trans (show _ = some (.slice t.Ar t.row.length t.cr) from rfl))
                             clear u1 hC6))
                        all_goals
                          have hF := rq_row (t := { t with m := s' }) (pre := [_, _, _, _, _, _]) (A := A6) (c := c6) (z := (N : Int)) (by dsimp only; rw [HRL.out]; exact hS6)
                          rw [HRL.out] at hF
                          have HF := hide hF
                          clear hS6 hF
                          go_wp2_with fail
                          go_meet
                          case rel => exact ⟨({ t with m := s' } : RqT).rw A6 c6 (N : Int), oc, orf, on, ⟨by rw [HRS2.out, HFA.out A6 c6], HAB.out.2⟩, HF.out⟩
                    · have y1 : (dk == 1) = false := by simp [hk1]
                      have HK1 := hide hk1
                      by_cases hk4 : dk = 4
                      · subst hk4
                        clear hk1 hfull hrl
                        have hw0 : wrongM ⟨4, dto, dfr, dat, dn⟩ = 0 := by
                          have h1 := HXW.out
                          unfold rWrong at h1
                          split at h1
                          · exact h1
                          · rename_i h2; omega
                        have hfe : fErr (absR t.m).objs (rgA t.m.regs dto) dat = 0 := by
                          have h1 := HXW.out
                          unfold rWrong at h1
                          rw [if_neg (by omega), if_pos rfl] at h1
                          exact h1
                        obtain ⟨u0, u1⟩ := wrongM_to hw0 (by simp)
                        dsimp only at u0 u1
                        obtain ⟨Q, hQ⟩ := int_nat u0
                        subst hQ
                        have hQ8 : Q < 8 := by omega
                        obtain ⟨oi, ki, hoi, hki, -, -⟩ := rferr_facts (HSX.out.get 6 rfl) HROK.out Q hfe
                        subst hki
                        have HOI := hide (show (rgA t.m.regs (Q : Int)).2 = (oi : Int) from by rw [hoi])
                        have HKI := hide (show ((ki : Nat) : Int) = (ki : Int) from rfl)
                        obtain ⟨m0, -, -, -, -⟩ := rm_mem (HSX.out.get 6 rfl)
                        obtain ⟨b1, b2, -, -, -⟩ := rm_reg (HSX.out.get 6 rfl) HROK.out.m.r8 Q hQ8
                        rw [hoi] at b2
                        obtain ⟨L8, hL8⟩ : ∃ q, t.m.regs.length = q := ⟨_, rfl⟩
                        have hQL : Q < L8 := by rw [← hL8, show t.m.regs.length = 8 from HROK.out.m.r8]; exact hQ8
                        rw [hL8] at m0
                        obtain ⟨gR, hgR⟩ : ∃ q, t.m.gr = q := ⟨_, rfl⟩
                        obtain ⟨cRr, hcR⟩ : ∃ q, t.m.cR = q := ⟨_, rfl⟩
                        rw [hgR, hcR] at m0
                        rw [hgR] at b2
                        obtain ⟨-, -, -, -, k4, k5, -, -, -⟩ := rq_cells (pre := [_, _, _, _, _, _]) HSX.out
                        obtain ⟨ln, hln⟩ : ∃ q, t.log.length = q := ⟨_, rfl⟩
                        rw [hln] at k4 k5
                        have HLNN := hide hln
                        have hln9 : ln ≤ 1000 := by have h1 := HQ.out.ll; rw [show t.a.log.length = t.log.length from rfl, hln] at h1; omega
                        have q1 : decide ((Q : Int) < 0) = false := by simp
                        have q2 : decide ((L8 : Int) ≤ (Q : Int)) = false := by simp; omega
                        have q3 : decide (L8 ≤ Q) = false := by simp; omega
                        have HSR := hide (show Sep No w wc [blkI (gd + 1) 41 #[.int .i64 0, .bool false, .int .i64 0], blkI gd 39 #[.int .i64 4, .int .i64 (Q : Int), .int .i64 dfr, .int .i64 (ki : Int), .int .i64 dn], blkI gO 85 #[.slice A k c, .slice none 0 0, .int .i64 0, .int .i64 0, .int .i64 0], rowI 41 3 A k c (outsV (rqRun (ds.take k) (rq0 σ0)).1), blkI g 27 #[.slice AO i cO, .slice AR nR cR], blkI (g + 1) 85 #[.slice none 0 0, .slice none 0 0, .int .i64 0, .int .i64 0, .int .i64 0], rmI t.Bm t.m, blkI Bc 194 (rqC t), rowI 3 1 t.Ar t.row.length t.cr (ints t.row), rowI 3 1 t.Am t.made.length t.cm (ints t.made), sufI 3 1 t.Ao ln t.co (log1 t.log), sufI 3 1 t.Af ln t.cf (log2 t.log)] from by rw [← hln]; exact HSX.out)
                        have hmx : Try.prog.follows .mixedOrders = true := by kernel_rfl
                        have HGR := hide (show t.m.gr = gR ∧ t.m.regs.length = L8 ∧ t.m.cR = cRr from ⟨hgR, hL8, hcR⟩)
                        have HQ8 := hide hQ8
                        clear hw0 hfe u0 u1 hoi hgR hcR hln b1 k1 hL8 hQ8
                        go_upto_region 18 with fail
                        go_cut [] (fun wx => ∃ (A1 : Option Addr) (c1 : Nat), Sep No w wx ([blkI (gd + 1) 41 #[.int .i64 0, .bool false, .int .i64 0], blkI gd 39 #[.int .i64 4, .int .i64 (Q : Int), .int .i64 dfr, .int .i64 (ki : Int), .int .i64 dn], blkI gO 85 #[.slice A k c, .slice none 0 0, .int .i64 0, .int .i64 0, .int .i64 0], rowI 41 3 A k c (outsV (rqRun (ds.take k) (rq0 σ0)).1), blkI g 27 #[.slice AO i cO, .slice AR nR cR], blkI (g + 1) 85 #[.slice none 0 0, .slice none 0 0, .int .i64 0, .int .i64 0, .int .i64 0]] ++ rmI t.Bm t.m :: blkI Bc 194 ((rqC t).setIfInBounds 4 (.slice A1 (ln + 1) c1)) :: [rowI 3 1 t.Ar t.row.length t.cr (ints t.row), rowI 3 1 t.Am t.made.length t.cm (ints t.made), sufI 3 1 A1 (ln + 1) c1 (log1 t.log ++ [.int .i64 (oi : Int)]), sufI 3 1 t.Af ln t.cf (log2 t.log)]))
                        case first =>
                          refine wp_region_z 21 (fun X => X.cell? ⟨Bc, 4, none⟩ = some (.slice t.Ao ln t.co) ∧ X.cell? ⟨Bc, 0, none⟩ = some (.pointer (some ⟨t.Bm, 0, none⟩)) ∧ X.cell? ⟨t.Bm, 0, none⟩ = some (.slice (some ⟨gR, 0, none⟩) L8 cRr) ∧ X.cell? ⟨gd, 1, none⟩ = some (.int .i64 (Q : Int)) ∧ X.cell? ⟨gR, Q * 2 + 1, none⟩ = some (.int .i64 (oi : Int))) hmx ?_
                          refine wpAnyZ_takes (by kernel_rfl) (fun _ _ _ _ _ h => h) ?_ (fuel := 5) [0, 1, 2, 3, 4, 5, 6, 7, 8, 9, 10, 11, 12, 13, 14, 15, 16] _ _ (Clo.start _) (by kernel_rfl) ?_
                          · exact ⟨k4, k0, m0, z6, b2⟩
                          · iterate 17
                              refine wpTake_cons (v := ?_) (by rfl) (by rfl) (fun wS hwS => ?_) ?_
                              rotate_left 1
                              · (try dsimp only at hwS)
                                go_simp
                                with_reducible rfl
                              try simp only [Act.put, List.setIfInBounds_toArray, List.set_cons_zero, List.set_cons_succ]
                            refine wpTake_nil ?_
                            refine wpAnyZ_one (i := 17) (by kernel_rfl) rfl (fun K hK => ?_)
                            go_simp
                            refine hK.out _ _ (fun _ => ?_) ?_
                            · exact ⟨(World.cell?_alloc_lt wc _ _ k8).trans k4, (World.cell?_alloc_lt wc _ _ k8).trans k0, (World.cell?_alloc_lt wc _ _ (World.block_lt_of_cell? wc _ m0)).trans m0, (World.cell?_alloc_lt wc _ _ (World.block_lt_of_cell? wc _ z6)).trans z6, (World.cell?_alloc_lt wc _ _ (World.block_lt_of_cell? wc _ b2)).trans b2⟩
                            clear hK K
                            refine wpAnyZ_one (i := 18) (by kernel_rfl) rfl (fun K hK => ?_)
                            refine step_suf1d (cs := #[.int .i64 (oi : Int)]) rfl (.tmp 79) (.tmp 92) 35 rfl (F := No) (W := w) sInt (items := _ :: _ :: _ :: _ :: _ :: _ :: _ :: _ :: _ :: _ :: _ :: _ :: _) HSR.out 10 (n := ln) rfl rfl rfl (by simp) rfl rfl (by omega) ?_
                            intro A6 c6 w6 hS6
                            obtain ⟨u1, u2, u3, -⟩ := hS6.rules 7 (g := Bc) (t := 194) rfl
                            have u5 := (u1 4).trans (show _ = some (.slice t.Ao t.log.length t.co) from rfl)
                            rw [HLNN.out] at u5
                            have hSw : w6.cell? ⟨Bc, 4, none⟩ = some (.slice t.Ao ln t.co) ∧ w6.cell? ⟨Bc, 0, none⟩ = some (.pointer (some ⟨t.Bm, 0, none⟩)) ∧ w6.cell? ⟨t.Bm, 0, none⟩ = some (.slice (some ⟨gR, 0, none⟩) L8 cRr) ∧ w6.cell? ⟨gd, 1, none⟩ = some (.int .i64 (Q : Int)) ∧ w6.cell? ⟨gR, Q * 2 + 1, none⟩ = some (.int .i64 (oi : Int)) := by
                              refine ⟨u5, (u1 0).trans rfl, ?_, ?_, ?_⟩
                              · have h1 := (rm_mem (hS6.get 6 rfl)).1
                                rw [HGR.out.1, HGR.out.2.1, HGR.out.2.2] at h1; exact h1
                              · exact ((hS6.rules 1 (g := gd) (t := 39) rfl).1 1).trans rfl
                              · have h1 := (rm_reg (hS6.get 6 rfl) HROK.out.m.r8 Q HQ8.out).2.1
                                rw [HGR.out.1] at h1
                                rw [h1, HOI.out]
                            have HSw := hide hSw
                            refine hK.out _ _ (fun _ => HSw.out) ?_
                            clear hK K u1 hSw k4 k0 m0 z6 b2 k8
                            refine wpAnyZ_one (i := 19) (by kernel_rfl) rfl (fun K hK => ?_)
                            go_simp
                            refine hK.out _ _ (fun _ => HSw.out) ?_
                            clear hK K
                            refine wpAnyZ_one (i := 20) (by kernel_rfl) rfl (fun K hK => ?_)
                            go_simp
                            refine hK.out _ _ (fun _ => HSw.out) ?_
                            clear hK K
                            refine wpAnyZ_one (i := 21) (by kernel_rfl) rfl (fun K hK => ?_)
                            go_simp
                            refine hK.out _ _ (fun h => absurd rfl h) ?_
                            clear hK K
                            refine wpAnyZ_done (by kernel_rfl) ?_
                            have hF := rq_lg1 (pre := [_, _, _, _, _, _]) (v := .slice A6 (ln + 1) c6) hS6
                            have HF := hide hF
                            clear hS6 hF
                            go_wp2_with fail
                            go_meet
                            case rel => exact ⟨A6, c6, HF.out⟩
                        case rest =>
                          obtain ⟨A1, c1, hS7⟩ := hcut
                          clear HSX HSR k0 k4 k5 k7 k8 m0 b2 z2 z3 z5 z6 z7 z8 z9 x2 x3 x5 q1 q2 q3
                          obtain ⟨z1, z2, z3, -⟩ := hS7.rules 1 (g := gd) (t := 39) rfl
                          have z5 := (z1 0).trans (show _ = some (.int .i64 4) from rfl)
                          have z8 := (z1 3).trans (show _ = some (.int .i64 (ki : Int)) from rfl)
                          obtain ⟨v1, v2, v3, -⟩ := hS7.rules 7 (g := Bc) (t := 194) rfl
                          have v5 := (v1 5).trans (show _ = some (.slice t.Af t.log.length t.cf) from rfl)
                          rw [HLNN.out] at v5
                          have HSR := hide hS7
                          clear z1 v1 hS7
                          go_upto_region 19 with fail
                          go_cut [] (fun wx => ∃ (A2 : Option Addr) (c2 : Nat), Sep No w wx ([blkI (gd + 1) 41 #[.int .i64 0, .bool false, .int .i64 0], blkI gd 39 #[.int .i64 4, .int .i64 (Q : Int), .int .i64 dfr, .int .i64 (ki : Int), .int .i64 dn], blkI gO 85 #[.slice A k c, .slice none 0 0, .int .i64 0, .int .i64 0, .int .i64 0], rowI 41 3 A k c (outsV (rqRun (ds.take k) (rq0 σ0)).1), blkI g 27 #[.slice AO i cO, .slice AR nR cR], blkI (g + 1) 85 #[.slice none 0 0, .slice none 0 0, .int .i64 0, .int .i64 0, .int .i64 0]] ++ rqR Bc (t.lg A1 A2 c1 c2 oi ki)))
                          case first =>
                            go_region_law (first
                              | (refine step_suf1 (cs := #[.int .i64 (ki : Int)]) rfl (.tmp 100) (.tmp 103) 35 rfl (F := No) (W := w) sInt (items := _ :: _ :: _ :: _ :: _ :: _ :: _ :: _ :: _ :: _ :: _ :: _ :: _) HSR.out.drew 11 (n := ln) rfl rfl rfl (by simp) rfl rfl (by omega) ?_
                                 intro A6 c6 w6 hS6
                                 obtain ⟨u1, u2, u3, -⟩ := hS6.rules 7 (g := Bc) (t := 194) rfl
                                 (have u5 := (u1 5).trans (show _ = some (.slice t.Af t.log.length t.cf) from rfl))
                                 clear u1)
                              | (refine step_suf1d (cs := #[.int .i64 (ki : Int)]) rfl (.tmp 100) (.tmp 103) 35 rfl (F := No) (W := w) sInt (items := _ :: _ :: _ :: _ :: _ :: _ :: _ :: _ :: _ :: _ :: _ :: _ :: _) HSR.out 11 (n := ln) rfl rfl rfl (by simp) rfl rfl (by omega) ?_
                                 intro A6 c6 w6 hS6
                                 obtain ⟨u1, u2, u3, -⟩ := hS6.rules 7 (g := Bc) (t := 194) rfl
                                 (have u5 := (u1 5).trans (show _ = some (.slice t.Af t.log.length t.cf) from rfl))
                                 clear u1))
                            all_goals
                              have hF := rq_lg (pre := [_, _, _, _, _, _]) (A1 := A1) (A2 := A6) (c1 := c1) (c2 := c6) (o := oi) (k := ki) HLNN.out hS6
                              have HF := hide hF
                              clear hS6 hF
                              go_wp2_with fail
                              go_meet
                              case rel => exact ⟨A6, c6, HF.out⟩
                          case rest =>
                            clear HSR z2 z3 z5 z8 v2 v3 v5
                            obtain ⟨A2, c2, hS8⟩ := hcut
                            obtain ⟨z1, z2, z3, -⟩ := hS8.rules 1 (g := gd) (t := 39) rfl
                            have z5 := (z1 0).trans (show _ = some (.int .i64 4) from rfl)
                            have z6 := (z1 1).trans (show _ = some (.int .i64 (Q : Int)) from rfl)
                            have z7 := (z1 2).trans (show _ = some (.int .i64 dfr) from rfl)
                            have z8 := (z1 3).trans (show _ = some (.int .i64 (ki : Int)) from rfl)
                            have z9 := (z1 4).trans (show _ = some (.int .i64 dn) from rfl)
                            obtain ⟨x1, x2, x3, -⟩ := hS8.rules 0 (g := gd + 1) (t := 41) rfl
                            have x5 := (x1 0).trans (show _ = some (.int .i64 0) from rfl)
                            obtain ⟨k0, k1, -, -, k4, k5, -, k7, k8⟩ := rq_cells (pre := [_, _, _, _, _, _]) hS8
                            have HSY := hide hS8
                            clear z1 x1 hS8
                            have CD := rdo_any (s := t.m) (HSY.out.drew.get 6 rfl) HROK.out ⟨4, (Q : Int), dfr, (ki : Int), dn⟩ HXW.out
                            unfold RDoOk at CD
                            obtain ⟨⟨⟨oc, orf, on⟩, σ'⟩, hsk⟩ : ∃ p, stepK ⟨4, (Q : Int), dfr, (ki : Int), dn⟩ (absR t.m) = p := ⟨_, rfl⟩
                            simp only [hsk] at CD HRS2
                            unfold OutV.val at CD
                            unfold DoV.cells at CD
                            dsimp only at CD HRS2
                            have HCD := hide CD
                            have HSK := hide hsk
                            clear CD hsk
                            go_upto_region 20 with fail
                            go_cut [] (fun wx => ∃ s' : RMem, Hid (absR s' = σ' ∧ s'.gone.length = s'.obs.length) ∧ Sep No w wx ([blkI (gd + 1) 41 #[.int .i64 oc, .bool orf, .int .i64 on], blkI gd 39 #[.int .i64 4, .int .i64 (Q : Int), .int .i64 dfr, .int .i64 (ki : Int), .int .i64 dn], blkI gO 85 #[.slice A k c, .slice none 0 0, .int .i64 0, .int .i64 0, .int .i64 0], rowI 41 3 A k c (outsV (rqRun (ds.take k) (rq0 σ0)).1), blkI g 27 #[.slice AO i cO, .slice AR nR cR], blkI (g + 1) 85 #[.slice none 0 0, .slice none 0 0, .int .i64 0, .int .i64 0, .int .i64 0]] ++ rqR Bc { (t.lg A1 A2 c1 c2 oi ki) with m := s' }))
                            case first =>
                              go_region_law (first
                                | (try go_simp
                                   go_at_call 81
                                   (with_reducible refine HCD.out.mono ?_)
                                   rintro e w8 ⟨s', rfl, hab, hP8, hgl, -⟩
                                   (have hS8 := HSY.out.drew.call 6 rfl hP8)
                                   obtain ⟨q1, q2, q3, -⟩ := hS8.rules 0 (g := gd + 1) (t := 41) rfl
                                   (have q5 := (q1 0).trans (show _ = some (.int .i64 0) from rfl))
                                   (have q6 := (q1 1).trans (show _ = some (.bool false) from rfl))
                                   (have q7 := (q1 2).trans (show _ = some (.int .i64 0) from rfl))
                                   (have HS8 := hide hS8)
                                   (have HAB := hide (And.intro hab hgl))
                                   clear hS8 hP8 hab hgl q1))
                              all_goals
                                go_wp2_with fail
                                go_meet
                                case rel => exact ⟨s', HAB.out, rq_mem (t := (t.lg A1 A2 c1 c2 oi ki)) (pre := [_, _, _, _, _, _]) rfl (((HS8.out.set_ 0 (g := gd + 1) (t := 41) rfl 0 (.int .i64 oc)).set_ 0 (g := gd + 1) (t := 41) rfl 1 (.bool orf)).set_ 0 (g := gd + 1) (t := 41) rfl 2 (.int .i64 on))⟩
                            case rest =>
                              clear HCD HSY z2 z3 z5 z6 z7 z8 z9 x2 x3 x5
                              try clear k0
                              try clear k1
                              try clear k4
                              try clear k5
                              try clear k7
                              try clear k8
                              obtain ⟨s', HAB, hS9⟩ := hcut
                              obtain ⟨z1, z2, z3, -⟩ := hS9.rules 1 (g := gd) (t := 39) rfl
                              have z5 := (z1 0).trans (show _ = some (.int .i64 4) from rfl)
                              have HS9 := hide hS9
                              have HFA := hide (rq_do_p (A1 := A1) (A2 := A2) (c1 := c1) (c2 := c2) HSK.out HAB.out.1 rfl HOI.out HKI.out)
                              clear z1 hS9
                              go_wp2_with fail
                              go_meet
                              case rel => exact ⟨{ t.lg A1 A2 c1 c2 oi ki with m := s' }, oc, orf, on, ⟨by rw [HRS2.out, HFA.out], HAB.out.2⟩, HS9.out⟩
                      · have y4 : (dk == 4) = false := by simp [hk4]
                        have HK4 := hide hk4
                        clear hk1 hk4 hfull hrl
                        have CD := rdo_any (s := t.m) (HSX.out.drew.get 6 rfl) HROK.out ⟨dk, dto, dfr, dat, dn⟩ HXW.out
                        unfold RDoOk at CD
                        obtain ⟨⟨⟨oc, orf, on⟩, σ'⟩, hsk⟩ : ∃ p, stepK ⟨dk, dto, dfr, dat, dn⟩ (absR t.m) = p := ⟨_, rfl⟩
                        simp only [hsk] at CD HRS2
                        unfold OutV.val at CD
                        unfold DoV.cells at CD
                        dsimp only at CD HRS2
                        have HCD := hide CD
                        have HSK := hide hsk
                        clear CD hsk
                        go_upto_region 20 with fail
                        go_cut [] (fun wx => ∃ s' : RMem, Hid (absR s' = σ' ∧ s'.gone.length = s'.obs.length) ∧ Sep No w wx ([blkI (gd + 1) 41 #[.int .i64 oc, .bool orf, .int .i64 on], blkI gd 39 #[.int .i64 dk, .int .i64 dto, .int .i64 dfr, .int .i64 dat, .int .i64 dn], blkI gO 85 #[.slice A k c, .slice none 0 0, .int .i64 0, .int .i64 0, .int .i64 0], rowI 41 3 A k c (outsV (rqRun (ds.take k) (rq0 σ0)).1), blkI g 27 #[.slice AO i cO, .slice AR nR cR], blkI (g + 1) 85 #[.slice none 0 0, .slice none 0 0, .int .i64 0, .int .i64 0, .int .i64 0]] ++ rqR Bc { t with m := s' }))
                        case first =>
                          go_region_law (first
                            | (try go_simp
                               go_at_call 81
                               (with_reducible refine HCD.out.mono ?_)
                               rintro e w8 ⟨s', rfl, hab, hP8, hgl, -⟩
                               (have hS8 := HSX.out.drew.call 6 rfl hP8)
                               obtain ⟨q1, q2, q3, -⟩ := hS8.rules 0 (g := gd + 1) (t := 41) rfl
                               (have q5 := (q1 0).trans (show _ = some (.int .i64 0) from rfl))
                               (have q6 := (q1 1).trans (show _ = some (.bool false) from rfl))
                               (have q7 := (q1 2).trans (show _ = some (.int .i64 0) from rfl))
                               (have HS8 := hide hS8)
                               (have HAB := hide (And.intro hab hgl))
                               clear hS8 hP8 hab hgl q1))
                          all_goals
                            go_wp2_with fail
                            go_meet
                            case rel => exact ⟨s', HAB.out, rq_mem (t := t) (pre := [_, _, _, _, _, _]) rfl (((HS8.out.set_ 0 (g := gd + 1) (t := 41) rfl 0 (.int .i64 oc)).set_ 0 (g := gd + 1) (t := 41) rfl 1 (.bool orf)).set_ 0 (g := gd + 1) (t := 41) rfl 2 (.int .i64 on))⟩
                        case rest =>
                          clear HCD HSX z2 z3 z5 z6 z7 z8 z9 x2 x3 x5
                          try clear k0
                          try clear k1
                          try clear k4
                          try clear k5
                          try clear k7
                          try clear k8
                          obtain ⟨s', HAB, hS9⟩ := hcut
                          obtain ⟨z1, z2, z3, -⟩ := hS9.rules 1 (g := gd) (t := 39) rfl
                          have z5 := (z1 0).trans (show _ = some (.int .i64 dk) from rfl)
                          have HS9 := hide hS9
                          have HFA := hide (rq_do_o HSK.out HAB.out.1 HK1.out HK4.out)
                          clear z1 hS9
                          go_wp2_with fail
                          go_meet
                          case rel => exact ⟨{ t with m := s' }, oc, orf, on, ⟨by rw [HRS2.out, HFA.out], HAB.out.2⟩, HS9.out⟩
                · have hst : rqStep ⟨dk, dto, dfr, dat, dn⟩ t.a = (⟨x, false, 0⟩, t.a) := by
                    have he : rqErr ⟨dk, dto, dfr, dat, dn⟩ t.a = x := by
                      unfold rqErr
                      rw [show rWrong ⟨dk, dto, dfr, dat, dn⟩ t.a.σ = x from HXW.out, if_neg (fun h => hx0 h.1)]
                    unfold rqStep
                    rw [if_neg (by intro h; rw [show dk = 8 from h] at y8; cases y8), he, if_pos hx0]
                  have hrs := HRS.out
                  rw [hst] at hrs
                  have HRS2 := hide hrs
                  have w1' : (x == 0) = false := by simp [hx0]
                  have w2' : decide (x = 0) = false := by simp [hx0]
                  clear hst hrs HRS
                  go_wp2_with fail
                  go_meet
                  case rel => exact ⟨t, x, false, 0, ⟨HRS2.out, HGK.out⟩, HSX.out⟩
        · obtain rfl : k = nd := by omega
          rw [List.take_of_length_le (by rw [HDL.out]; exact Nat.le_refl _)] at hab hS
          have HAB := hide hab
          obtain ⟨ml, hml⟩ : ∃ q, t.made.length = q := ⟨_, rfl⟩
          obtain ⟨ll, hll⟩ : ∃ q, t.log.length = q := ⟨_, rfl⟩
          obtain ⟨rl, hrl⟩ : ∃ q, t.row.length = q := ⟨_, rfl⟩
          obtain ⟨tm, htm⟩ : ∃ q, t.times = q := ⟨_, rfl⟩
          have HML := hide hml
          have HLL := hide hll
          have HRL := hide hrl
          have HTM := hide htm
          obtain ⟨u1, u2, u3, -⟩ := hS.rules 0 (g := gO) (t := 85) rfl
          have u5 := (u1 0).trans (show _ = some (.slice A k c) from rfl)
          have u6 := (u1 1).trans (show _ = some (.slice none 0 0) from rfl)
          have u7 := (u1 2).trans (show _ = some (.int .i64 0) from rfl)
          have u8 := (u1 3).trans (show _ = some (.int .i64 0) from rfl)
          have u9 := (u1 4).trans (show _ = some (.int .i64 0) from rfl)
          obtain ⟨x1, x2, x3, -⟩ := hS.rules 3 (g := g + 1) (t := 85) rfl
          have n2 : gO ≠ g + 1 := fun e => hS.other (a := 0) (b := 3) rfl rfl (by omega) gO rfl e
          have n4 : g + 1 ≠ gO := fun e => n2 e.symm
          have n5 : Bc ≠ gO := fun e => hS.other (a := 0) (b := 5) rfl rfl (by omega) gO rfl e.symm
          have n6 : gO ≠ Bc := fun e => n5 e.symm
          obtain ⟨-, k1, k2, -, k4, -, k6, -, -⟩ := rq_cells (pre := [_, _, _, _]) hS
          rw [hrl] at k1
          rw [hml] at k2
          rw [hll] at k4
          rw [htm] at k6
          have hF := ((((hS.set_ 0 (g := gO) (t := 85) rfl 1 (.slice t.Ar rl t.cr)).set_ 0 (g := gO) (t := 85) rfl 2 (.int .i64 (ml : Int))).set_ 0 (g := gO) (t := 85) rfl 3 (.int .i64 (ll : Int))).set_ 0 (g := gO) (t := 85) rfl 4 (.int .i64 (tm : Int)))
          have hF2 := ((((hF.set_ 3 (g := g + 1) (t := 85) rfl 0 (.slice A k c)).set_ 3 (g := g + 1) (t := 85) rfl 1 (.slice t.Ar rl t.cr)).set_ 3 (g := g + 1) (t := 85) rfl 2 (.int .i64 (ml : Int))).set_ 3 (g := g + 1) (t := 85) rfl 3 (.int .i64 (ll : Int))).set_ 3 (g := g + 1) (t := 85) rfl 4 (.int .i64 (tm : Int))
          have HF := hide hF2
          have HRES := hide (show (rqRun ds (rq0 σ0)).2.made.length = ml ∧ (rqRun ds (rq0 σ0)).2.log.length = ll ∧ (rqRun ds (rq0 σ0)).2.times = tm ∧ (rqRun ds (rq0 σ0)).2.row = t.row from by rw [← hab]; exact ⟨hml, hll, htm, rfl⟩)
          clear hS u1 hF hF2 hab HI hml hll hrl htm HQ HROK hok hgk HAB
          go_wp2_with fail
          refine bp_named ?_
          intro Y hY
          have HFY : Sep No w Y _ := hY ▸ HF.out
          have HF := hide HFY
          obtain ⟨r1, r2, r3, -⟩ := HFY.rules 3 (g := g + 1) (t := 85) rfl
          have r5 := (r1 0).trans (show _ = some (.slice A k c) from rfl)
          have r6 := (r1 1).trans (show _ = some (.slice t.Ar rl t.cr) from rfl)
          have r7 := (r1 2).trans (show _ = some (.int .i64 (ml : Int)) from rfl)
          have r8 := (r1 3).trans (show _ = some (.int .i64 (ll : Int)) from rfl)
          have r9 := (r1 4).trans (show _ = some (.int .i64 (tm : Int)) from rfl)
          clear hY HFY r1 x1 x2 x3 k1 k2 k4 k6 u2 u3 u5 u6 u7 u8 u9
          refine bodyPost_ret (v := .agg #[.slice A k c, .slice t.Ar rl t.cr, .int .i64 (ml : Int), .int .i64 (ll : Int), .int .i64 (tm : Int)]) (by simp [results, Try.results37, go_sem, r5, r6, r7, r8, r9]) rfl ⟨A, c, t.Ar, rl, t.cr, by rw [HRES.out.1, HRES.out.2.1, HRES.out.2.2.1], HF.out.below_, HF.out.rd 1 rfl, by rw [HRES.out.2.2.2]; exact (show Rd _ _ 1 t.Ar rl (ints t.row) from by rw [← HRL.out]; exact HF.out.rd 6 (by rw [← HRL.out]; rfl))⟩
end Go.Proofs.Ytjphckfbbiehdaa
