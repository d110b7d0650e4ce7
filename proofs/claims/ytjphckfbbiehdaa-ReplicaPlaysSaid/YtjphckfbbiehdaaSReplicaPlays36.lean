/- The reference of a memory that is copied: what it has in memory; an object gets a copy. The reference of a memory that is copied: a step, where a change waits. -/
import Derived.Test.YtjphckfbbiehdaaSReplicaPlays27
import Derived.Test.YtjphckfbbiehdaaSReplicaPlays28
import Derived.Test.YtjphckfbbiehdaaSReplicaPlays2
import Derived.Test.YtjphckfbbiehdaaSReplicaPlays12
import Derived.Test.YtjphckfbbiehdaaSReplicaPlays29
import Derived.StillTailTactics
import Derived.Deep.DeepCutAuto
set_option linter.unusedSimpArgs false
set_option linter.unusedVariables false
namespace Go.Proofs.Ytjphckfbbiehdaa
open Go.RowKit
theorem quiet_lr {P : Program} {f : FuncId} {args : Array Value} {w : World} {n : Nat} {v : Value}
    (h : Calls P f args (w.drewN n) fun e w' => e = .returned v ∧ w.drewN n = w') : Calls P f args (w.drewN n) fun e w'' => e = .returned v ∧ ∃ m, w'' = w.drewN m :=
  h.mono fun _ _ ⟨he, hm⟩ => ⟨he, n, hm.symm⟩
theorem wp_named {P : Program} {c : Code} {Q : Exit → Act → World → Prop} {a : Act} {w : World} (h : ∀ X, w = X → Code.wp P c Q a X) : Code.wp P c Q a w := h w rfl
structure RqT where
  Bm : Nat
  m : RMem
  Ar : Option Addr
  cr : Nat
  row : List Int
  Am : Option Addr
  cm : Nat
  made : List Int
  filled : Nat
  Ao : Option Addr
  co : Nat
  Af : Option Addr
  cf : Nat
  log : List (Nat × Nat)
  times : Nat
def RqT.a (t : RqT) : RqA := ⟨absR t.m, t.row, t.made, t.filled, t.log, t.times⟩
def log1 (l : List (Nat × Nat)) : List Value := l.map fun p => .int .i64 (p.1 : Int)
def log2 (l : List (Nat × Nat)) : List Value := l.map fun p => .int .i64 (p.2 : Int)
def rqC (t : RqT) : Array Value := #[.pointer (some ⟨t.Bm, 0, none⟩), .slice t.Ar t.row.length t.cr, .slice t.Am t.made.length t.cm, .int .i64 (t.filled : Int), .slice t.Ao t.log.length t.co, .slice t.Af t.log.length t.cf, .int .i64 (t.times : Int)]
def rqR (Bc : Nat) (t : RqT) : List Item := [rmI t.Bm t.m, blkI Bc 194 (rqC t), rowI 3 1 t.Ar t.row.length t.cr (ints t.row), rowI 3 1 t.Am t.made.length t.cm (ints t.made), sufI 3 1 t.Ao t.log.length t.co (log1 t.log), sufI 3 1 t.Af t.log.length t.cf (log2 t.log)]
section
variable {F : Nat → Prop} {W0 w : World} {Bc : Nat} {t : RqT} {pre : List Item}
theorem rq_cells (hS : Sep F W0 w (pre ++ rqR Bc t)) :
    w.cell? ⟨Bc, 0, none⟩ = some (.pointer (some ⟨t.Bm, 0, none⟩)) ∧ w.cell? ⟨Bc, 1, none⟩ = some (.slice t.Ar t.row.length t.cr) ∧ w.cell? ⟨Bc, 2, none⟩ = some (.slice t.Am t.made.length t.cm) ∧ w.cell? ⟨Bc, 3, none⟩ = some (.int .i64 (t.filled : Int)) ∧ w.cell? ⟨Bc, 4, none⟩ = some (.slice t.Ao t.log.length t.co) ∧ w.cell? ⟨Bc, 5, none⟩ = some (.slice t.Af t.log.length t.cf) ∧ w.cell? ⟨Bc, 6, none⟩ = some (.int .i64 (t.times : Int)) ∧ (∀ i, w.frozen? ⟨Bc, i, none⟩ = false) ∧ Bc < w.heap.size := by
  obtain ⟨c1, c2, c3, _⟩ := hS.rules (pre.length + 1) (g := Bc) (t := 194) (cs := rqC t) (by rw [List.getElem?_append_right (by omega)]; simp [rqR])
  exact ⟨(c1 0).trans rfl, (c1 1).trans rfl, (c1 2).trans rfl, (c1 3).trans rfl, (c1 4).trans rfl, (c1 5).trans rfl, (c1 6).trans rfl, c2, c3⟩
theorem rq_rm (hS : Sep F W0 w (pre ++ rqR Bc t)) : (rmI t.Bm t.m).P w := hS.get pre.length (by rw [List.getElem?_append_right (by omega)]; simp [rqR])
theorem rq_made (hS : Sep F W0 w (pre ++ rqR Bc t)) : (rowI 3 1 t.Am t.made.length t.cm (ints t.made)).P w := hS.get (pre.length + 3) (by rw [List.getElem?_append_right (by omega)]; simp [rqR])
end
def RqT.md (t : RqT) (A : Option Addr) (c : Nat) (x : Int) : RqT := { t with made := t.made ++ [x], Am := A, cm := c }
theorem rq_md {F : Nat → Prop} {W0 w : World} {Bc : Nat} {t : RqT} {x : Item} {A : Option Addr} {c : Nat} {z : Int} (h : Sep F W0 w [x, rmI t.Bm t.m, blkI Bc 194 (rqC t), rowI 3 1 t.Ar t.row.length t.cr (ints t.row), rowI 3 1 A (t.made.length + 1) c (ints t.made ++ [.int .i64 z]), sufI 3 1 t.Ao t.log.length t.co (log1 t.log), sufI 3 1 t.Af t.log.length t.cf (log2 t.log)]) :
    Sep F W0 (w.setCell ⟨Bc, 2, none⟩ (.slice A (t.made.length + 1) c)) (x :: rqR Bc (t.md A c z)) := by
  have h1 := h.set_ 2 (g := Bc) (t := 194) rfl 2 (.slice A (t.made.length + 1) c)
  have e : rqR Bc (t.md A c z) = [rmI t.Bm t.m, blkI Bc 194 ((rqC t).setIfInBounds 2 (.slice A (t.made.length + 1) c)), rowI 3 1 t.Ar t.row.length t.cr (ints t.row), rowI 3 1 A (t.made.length + 1) c (ints t.made ++ [.int .i64 z]), sufI 3 1 t.Ao t.log.length t.co (log1 t.log), sufI 3 1 t.Af t.log.length t.cf (log2 t.log)] := by
    unfold rqR rqC RqT.md
    dsimp only
    rw [List.length_append, List.length_singleton]
    simp [ints]
  rw [e]
  exact h1
set_option maxRecDepth 100000 in
set_option maxHeartbeats 8000000 in
theorem rqcopied_any {F : Nat → Prop} {W0 w : World} {Bc : Nat} {t : RqT} {x : Item} (h : Sep F W0 w (x :: rqR Bc t)) (v : Val) (hm : t.made.length ≤ 1000) :
    Calls Try.prog 144 #[.pointer (some ⟨Bc, 0, none⟩), .agg #[.bool v.1, .int .i64 v.2]] w fun e w' => e = .returned (.bool (v.1 && !decide (v.2 ∈ t.made))) ∧ ∃ t' : RqT, t'.a = t.a.cop v ∧ t'.m = t.m ∧ t'.Bm = t.Bm ∧ Sep F W0 w' (x :: rqR Bc t') := by
  obtain ⟨g, hg⟩ : ∃ g, w.heap.size = g := ⟨_, rfl⟩
  have hS0 := h.blkAtF 107 #[.bool v.1, .int .i64 v.2] hg
  obtain ⟨W, hW⟩ : ∃ W, w.alloc (.cells #[.bool v.1, .int .i64 v.2] 107) = W := ⟨_, rfl⟩
  rw [hW] at hS0
  have HW := hide hW
  obtain ⟨x1, x2, x3, -⟩ := hS0.rules 0 (g := g) (t := 107) rfl
  have x5 := (x1 0).trans (show _ = some (.bool v.1) from rfl)
  have x6 := (x1 1).trans (show _ = some (.int .i64 v.2) from rfl)
  obtain ⟨-, -, k2, -, -, -, -, k7, k8⟩ := rq_cells (pre := [_, x]) hS0
  have CH := hide (fun k => quiet_lr (v := .bool (decide (v.2 ∈ t.made))) (has_any (W.drewN k) (fun _ => True) t.Am t.made.length t.cm t.made v.2 (by omega) ((hS0.drewN k).rd_ 5 rfl)))
  have HS := hide hS0
  obtain ⟨bv, mv⟩ := v
  dsimp only at x5 x6 CH HW HS ⊢
  clear h hS0 x1 hW
  cases bv with
  | false =>
    go_enter Try.func144, Try.ntmps144
    go_upto_region 1 with fail
    rw [HW.out]
    go_quiet ((go_at_call 45; with_reducible exact CH.out _))
    go_wp2_with fail
    go_ret
    exact ⟨rfl, t, (by
      show t.a = t.a.cop (false, mv)
      unfold RqA.cop
      rw [if_pos (.inl rfl)]), rfl, rfl, by first | exact HS.out.sub (List.sublist_cons_self _ _) | exact (HS.out.drewN _).sub (List.sublist_cons_self _ _)⟩
  | true =>
    obtain ⟨b, hb⟩ : ∃ b, decide (mv ∈ t.made) = b := ⟨_, rfl⟩
    have HB := hide hb
    rw [hb] at CH ⊢
    clear hb
    cases b with
    | true =>
      go_enter Try.func144, Try.ntmps144
      go_upto_region 1 with fail
      rw [HW.out]
      go_quiet ((go_at_call 45; with_reducible exact CH.out _))
      go_wp2_with fail
      go_ret
      exact ⟨rfl, t, (by
        show t.a = t.a.cop (true, mv)
        unfold RqA.cop
        rw [if_pos (.inr (of_decide_eq_true HB.out))]), rfl, rfl, by first | exact HS.out.sub (List.sublist_cons_self _ _) | exact (HS.out.drewN _).sub (List.sublist_cons_self _ _)⟩
    | false =>
      go_enter Try.func144, Try.ntmps144
      go_upto_region 1 with fail
      rw [HW.out]
      go_quiet ((go_at_call 45; with_reducible exact CH.out _))
      go_upto_region 3 with fail
      refine wp_named ?_
      intro Z hZ
      have hS := HS.out
      have hSZ : Sep F W0 Z (blkI g 107 #[.bool true, .int .i64 mv] :: x :: rqR Bc t) := by rw [← hZ]; first | exact hS | exact hS.drew | exact hS.drewN _
      clear hZ x2 x3 k2 k7 k8 x5 x6 CH hS HS
      obtain ⟨x1, x2, x3, -⟩ := hSZ.rules 0 (g := g) (t := 107) rfl
      have x6 := (x1 1).trans (show _ = some (.int .i64 mv) from rfl)
      obtain ⟨-, -, k2, -, -, -, -, k7, k8⟩ := rq_cells (pre := [_, x]) hSZ
      have k6 := (World.cell?_alloc_lt Z (.cells #[.int .i64 mv] 3) _ k8).trans k2
      have HSZ := hide hSZ
      have HM := hide hm
      clear hSZ x1 hm
      go_region_law (first
        | (refine step_app1 (cs := #[.int .i64 mv]) rfl (.tmp 21) (.tmp 24) 35 rfl (F := F) (W := W0) sInt (items := _ :: _ :: _ :: _ :: _ :: _ :: _ :: _) HSZ.out 5 (n := t.made.length) rfl rfl rfl (by simp) rfl rfl (by have := HM.out; omega) ?_
           intro A7 c7 w7 hS7 hC7
           obtain ⟨u1, u2, u3, _⟩ := hS7.rules 3 (g := Bc) (t := 194) rfl
           (have u5 := (u1 2).trans (show _ = some (.slice t.Am t.made.length t.cm) from rfl))
           clear u1 hC7)
        | (refine step_app1d (cs := #[.int .i64 mv]) rfl (.tmp 21) (.tmp 24) 35 rfl (F := F) (W := W0) sInt (items := _ :: _ :: _ :: _ :: _ :: _ :: _ :: _) HSZ.out 5 (n := t.made.length) rfl rfl rfl (by simp) rfl rfl (by have := HM.out; omega) ?_
           intro A7 c7 w7 hS7 hC7
           obtain ⟨u1, u2, u3, _⟩ := hS7.rules 3 (g := Bc) (t := 194) rfl
           (have u5 := (u1 2).trans (show _ = some (.slice t.Am t.made.length t.cm) from rfl))
           clear u1 hC7))
      all_goals
        have HF := hide (rq_md (hS7.sub (List.sublist_cons_self _ _)))
        clear hS7
        go_wp2_with fail
        go_ret
        exact ⟨rfl, t.md A7 c7 mv, (by
          show (t.md A7 c7 mv).a = t.a.cop (true, mv)
          unfold RqA.cop
          rw [if_neg (fun h => (by rcases h with h | h; · cases h
                                   · exact absurd h (of_decide_eq_false HB.out)))]
          rfl), rfl, rfl, HF.out⟩
end Go.Proofs.Ytjphckfbbiehdaa

namespace Go.Proofs.Ytjphckfbbiehdaa
open Go.RowKit
structure RqOk (r : RqA) : Prop where
  m : MOk r.σ
  n : r.σ.objs.length ≤ 500
  lg : ∀ p ∈ r.log, p.1 < r.σ.objs.length ∧ p.2 < (obA r.σ.objs (p.1 : Int)).length
  md : ∀ x ∈ r.made, ∃ z : Nat, x = (z : Int) ∧ z < r.σ.objs.length
  ml : r.made.length ≤ 500
  fi : r.filled ≤ 500
  ll : r.log.length ≤ 900
  tm : r.times ≤ 100000
theorem rsim_ok {a : RpA} {r : RqA} (h : RpSim a r) (ok : RpOk a) (hn : a.objs.length ≤ 500) (hl : a.log.length ≤ 900) (ht : a.times ≤ 100000) : RqOk r := by
  have h24 := ok.made24
  have hml : r.made.length = a.cps.length := by rw [← h.md]; unfold RpA.made keysC; rw [List.length_map, List.length_map]
  refine ⟨h.m, by rw [← h.n]; exact hn, fun p hp => ?_, fun x hx => ?_, by omega, by rw [← h.fi]; have := ok.fk; omega, by rw [← h.lg]; exact hl, by rw [← h.tm]; exact ht⟩
  · rw [← h.lg] at hp
    obtain ⟨fs, hf, hk⟩ := ok.lg p hp
    exact ⟨by rw [← h.n]; exact RpA.fld_lt hf, by rw [h.ob p.1 fs hf]; exact hk⟩
  · rw [← h.md] at hx
    obtain ⟨k, hk, rfl⟩ := List.mem_map.1 hx
    obtain ⟨fs, hf⟩ := ok.has_fld (show a.has k from hk)
    exact ⟨k, rfl, by rw [← h.n]; exact RpA.fld_lt hf⟩
def RqT.tl (t : RqT) (l : List (Nat × Nat)) : RqT := { t with Ao := (if t.co = 1 then t.Ao else t.Ao.map (·.add (1 * 1))), co := t.co - 1, Af := (if t.cf = 1 then t.Af else t.Af.map (·.add (1 * 1))), cf := t.cf - 1, log := l }
theorem rq_tail {F : Nat → Prop} {W0 w : World} {Bc : Nat} {t : RqT} {x : Item} (h : Sep F W0 w (x :: rqR Bc t)) {p : Nat × Nat} {l : List (Nat × Nat)} (hl : t.log = p :: l) :
    Sep F W0 ((w.setCell ⟨Bc, 4, none⟩ (.slice (t.tl l).Ao l.length (t.co - 1))).setCell ⟨Bc, 5, none⟩ (.slice (t.tl l).Af l.length (t.cf - 1))) (x :: rqR Bc (t.tl l)) := by
  have e1 : t.log.length = l.length + 1 := by rw [hl]; rfl
  have e2 : log1 t.log = .int .i64 (p.1 : Int) :: log1 l := by rw [hl]; rfl
  have e3 : log2 t.log = .int .i64 (p.2 : Int) :: log2 l := by rw [hl]; rfl
  have h0 : Sep F W0 w [x, rmI t.Bm t.m, blkI Bc 194 (rqC t), rowI 3 1 t.Ar t.row.length t.cr (ints t.row), rowI 3 1 t.Am t.made.length t.cm (ints t.made), sufI 3 1 t.Ao (l.length + 1) t.co (.int .i64 (p.1 : Int) :: log1 l), sufI 3 1 t.Af (l.length + 1) t.cf (.int .i64 (p.2 : Int) :: log2 l)] := by
    rw [← e1, ← e2, ← e3]; exact h
  have h1 := (h0.sufTail 5 rfl (by omega)).sufTail 6 rfl (by omega)
  exact (h1.set_ 2 (g := Bc) (t := 194) rfl 4 (.slice (t.tl l).Ao l.length (t.co - 1))).set_ 2 (g := Bc) (t := 194) rfl 5 (.slice (t.tl l).Af l.length (t.cf - 1))
theorem suf_cell0 {w : World} {e n c : Nat} {A : Option Addr} {xs : List Value} {u : Value} (h : (sufI e 1 A n c (u :: xs)).P w) : ∃ g off, A = some ⟨g, off, none⟩ ∧ w.cell? ⟨g, off, none⟩ = some u ∧ g < w.heap.size ∧ 1 ≤ c ∧ n = xs.length + 1 := by
  have hn : n = xs.length + 1 := by have := h.1; simp at this; omega
  have hle := suf_le h
  rcases h.2 with ⟨_, h0, _⟩ | ⟨g, off, cur, hA, _⟩
  · omega
  · obtain ⟨ad, e1, _, hb, hc⟩ := (suf_rd h).2 (by omega)
    rw [hA] at e1
    injection e1 with e1
    subst e1
    have c0 := hc 0 u rfl
    rw [suf_addr] at c0
    exact ⟨g, off, hA, c0, hb, by omega, hn⟩
set_option maxRecDepth 100000 in
set_option maxHeartbeats 16000000 in
theorem rqwork_log {F : Nat → Prop} {W0 w : World} {Bc : Nat} {t : RqT} {x : Item} (h : Sep F W0 w (x :: rqR Bc t)) (ok : RqOk t.a) {o k : Nat} {l : List (Nat × Nat)} (hl : t.log = (o, k) :: l) :
    Calls Try.prog 85 #[.pointer (some ⟨Bc, 0, none⟩)] w fun e w' => (∃ u, e = .returned u) ∧ ∃ t' : RqT, t'.a = t.a.work ∧ t'.m = t.m ∧ Sep F W0 w' (x :: rqR Bc t') := by
  obtain ⟨k0, -, k2, -, k4, k5, -, k7, k8⟩ := rq_cells (pre := [x]) h
  obtain ⟨g1, f1, hA1, v1, v2, v3, v4⟩ := suf_cell0 (show (sufI 3 1 t.Ao t.log.length t.co (.int .i64 (o : Int) :: log1 l)).P w from by
    have h1 := h.get 5 rfl
    rw [show log1 t.log = .int .i64 (o : Int) :: log1 l from by rw [hl]; rfl] at h1; exact h1)
  obtain ⟨g2, f2, hA2, y1, y2, y3, y4⟩ := suf_cell0 (show (sufI 3 1 t.Af t.log.length t.cf (.int .i64 (k : Int) :: log2 l)).P w from by
    have h1 := h.get 6 rfl
    rw [show log2 t.log = .int .i64 (k : Int) :: log2 l from by rw [hl]; rfl] at h1; exact h1)
  obtain ⟨ho, hk⟩ := ok.lg (o, k) (by rw [show t.a.log = (o, k) :: l from hl]; exact List.mem_cons_self ..)
  dsimp only at ho hk
  have hol : o < t.m.obs.length := by rw [show t.a.σ.objs.length = t.m.obs.length from List.length_map ..] at ho; exact ho
  have hob : obA t.a.σ.objs (o : Int) = t.m.obs[o].fields := by
    show obA (t.m.obs.map Ob.fields) (o : Int) = _
    unfold obA
    rw [Int.toNat_natCast, List.getD_eq_getElem?_getD]
    simp [List.getElem?_eq_getElem hol]
  rw [hob] at hk
  have hrm := rq_rm (pre := [x]) h
  have CH := hide (has_any w (fun _ => True) t.Am t.made.length t.cm t.made (o : Int) (by have h1 := ok.ml; rw [show t.a.made.length = t.made.length from rfl] at h1; omega) (h.rd_ 4 rfl))
  obtain ⟨-, m1, -, -, -⟩ := rm_mem hrm
  obtain ⟨ga, hga, a1, a2⟩ := rm_ob hrm hol
  have hfn := rm_len hrm (List.getElem_mem hol)
  obtain ⟨g3, hg3, b1, b2, -⟩ := rm_field hrm hol hk
  have hk4 : k < 4 := by have h1 := ok.m.f4 t.m.obs[o].fields (List.mem_map.2 ⟨_, List.getElem_mem hol, rfl⟩); omega
  have hn5 : t.m.obs.length ≤ 500 := by have h1 := ok.n; rw [show t.a.σ.objs.length = t.m.obs.length from List.length_map ..] at h1; exact h1
  rw [hga] at m1
  obtain ⟨oA, hoA⟩ : ∃ q, t.m.obs[o].A = q := ⟨_, rfl⟩
  obtain ⟨oN, hoN⟩ : ∃ q, t.m.obs[o].n = q := ⟨_, rfl⟩
  obtain ⟨oC, hoC⟩ : ∃ q, t.m.obs[o].c = q := ⟨_, rfl⟩
  obtain ⟨v, hv⟩ : ∃ q, t.m.obs[o].fields[k] = q := ⟨_, rfl⟩
  rw [hoA, hoN, hoC] at a1
  rw [hoN] at hfn
  rw [hoA] at hg3
  subst hg3
  rw [hv] at b1 b2
  have HV := hide (show (obA t.a.σ.objs (o : Int)).getD k (false, 0) = v from by rw [hob, List.getD_eq_getElem?_getD, List.getElem?_eq_getElem hk, hv]; rfl)
  rw [hfn] at hk
  obtain ⟨nO, hnO⟩ : ∃ q, t.m.obs.length = q := ⟨_, rfl⟩
  rw [hnO] at m1 hol hn5
  obtain ⟨cO, hcO⟩ : ∃ q, t.m.co = q := ⟨_, rfl⟩
  rw [hcO] at m1
  obtain ⟨n, hn⟩ : ∃ q, t.log.length = q := ⟨_, rfl⟩
  have hn9 : n ≤ 900 := by rw [← hn]; exact ok.ll
  have hn1 : 1 ≤ n := by rw [← hn]; omega
  have HN := hide (show l.length = n - 1 by rw [← hn, hl]; simp)
  rw [hn, hA1] at k4
  rw [hn, hA2] at k5
  have q1 : decide ((0 : Int) < (n : Int)) = true := by simp; omega
  have q2 : decide ((o : Int) < 0) = false := by simp
  have q3 : decide ((nO : Int) ≤ (o : Int)) = false := by simp; exact hol
  have HOK := hide ok
  have HL := hide hl
  have HS := hide h
  obtain ⟨b, hb⟩ : ∃ b, decide ((o : Int) ∈ t.made) = b := ⟨_, rfl⟩
  have HB := hide hb
  rw [hb] at CH
  obtain ⟨C1, hC1⟩ : ∃ q, t.co = q := ⟨_, rfl⟩
  obtain ⟨C2, hC2⟩ : ∃ q, t.cf = q := ⟨_, rfl⟩
  rw [hC1] at k4 v3
  rw [hC2] at k5 y3
  obtain ⟨bv, mv⟩ := v
  dsimp only at b1 b2
  have HCO := hide (fun (wq : World) (hq : Sep F W0 wq (x :: rqR Bc t)) => rqcopied_any hq (bv, mv) (by have h1 := HOK.out.ml; rw [show t.a.made.length = t.made.length from rfl] at h1; omega))
  clear h ok hl v4 y4 ho hob hrm hga hfn hoA hoN hoC hv hnO hcO hn hb hC1 hC2
  have hmx : Try.prog.follows .mixedOrders = true := by kernel_rfl
  cases b with
  | true =>
    go_enter Try.func85, Try.ntmps85
    go_wp2_with fail
    refine CH.out.mono ?_
    rintro e w' ⟨rfl, rfl⟩
    go_wp2_with fail
    go_still_tail 20, hmx
    go_wp2_with fail
    refine (HCO.out _ (by first | exact HS.out | exact HS.out.drew | exact HS.out.drewN _)).mono ?_
    rintro e w5 ⟨rfl, t5, hab, hm5, -, hS5⟩
    have hl5 : t5.log = (o, k) :: l := by
      have h1 := congrArg RqA.log hab
      rw [(rcop_keep _ _).2.2.2.1] at h1
      exact h1.trans HL.out
    have hR : (t5.tl l).a = t.a.work := by
      unfold RqA.work
      rw [show t.a.log = (o, k) :: l from HL.out]
      dsimp only
      rw [if_pos (show (o : Int) ∈ t.a.made from of_decide_eq_true HB.out), HV.out, ← hab]
      rfl
    clear CH HCO HS HOK HL HB HV k0 k2 k4 k5 v1 v2 v3 y1 y2 y3 m1 a1 a2 b1 b2 hab k7 k8
    obtain ⟨-, -, -, -, k4, k5, -, k7, k8⟩ := rq_cells (pre := [x]) hS5
    obtain ⟨g1, f1, hA1, v1, v2, v3, v4⟩ := suf_cell0 (show (sufI 3 1 t5.Ao t5.log.length t5.co (.int .i64 (o : Int) :: log1 l)).P w5 from by
      have h1 := hS5.get 5 rfl
      rw [show log1 t5.log = .int .i64 (o : Int) :: log1 l from by rw [hl5]; rfl] at h1; exact h1)
    obtain ⟨g2, f2, hA2, y1, y2, y3, y4⟩ := suf_cell0 (show (sufI 3 1 t5.Af t5.log.length t5.cf (.int .i64 (k : Int) :: log2 l)).P w5 from by
      have h1 := hS5.get 6 rfl
      rw [show log2 t5.log = .int .i64 (k : Int) :: log2 l from by rw [hl5]; rfl] at h1; exact h1)
    have hF := rq_tail hS5 hl5
    have hln : t5.log.length = n := by rw [hl5, List.length_cons, HN.out]; omega
    rw [hln, hA1] at k4
    rw [hln, hA2] at k5
    obtain ⟨T, hT⟩ : ∃ T, t5.tl l = T := ⟨_, rfl⟩
    have e1 : T.Ao = if t5.co = 1 then some ⟨g1, f1, none⟩ else some ⟨g1, f1 + 1, none⟩ := by
      rw [← hT]
      show (if t5.co = 1 then t5.Ao else t5.Ao.map (·.add (1 * 1))) = _
      rw [hA1, Option.map_some, suf_addr]
    have e2 : T.Af = if t5.cf = 1 then some ⟨g2, f2, none⟩ else some ⟨g2, f2 + 1, none⟩ := by
      rw [← hT]
      show (if t5.cf = 1 then t5.Af else t5.Af.map (·.add (1 * 1))) = _
      rw [hA2, Option.map_some, suf_addr]
    have HR := hide (show T.a = t.a.work ∧ T.m = t.m from by rw [← hT]; exact ⟨hR, hm5⟩)
    rw [hT, e1, e2, HN.out] at hF
    obtain ⟨D1, hD1⟩ : ∃ q, t5.co = q := ⟨_, rfl⟩
    obtain ⟨D2, hD2⟩ : ∃ q, t5.cf = q := ⟨_, rfl⟩
    rw [hD1] at k4 v3 hF
    rw [hD2] at k5 y3 hF
    clear e1 e2 hT hS5 hl5 hA1 hA2 hln v4 y4 hR hD1 hD2 v1 v2 y1 y2
    rcases Decidable.em (D1 = 1) with c1 | c1 <;> rcases Decidable.em (D2 = 1) with c2 | c2
    all_goals
      first
        | (subst c1; rw [if_pos rfl, Nat.sub_self] at hF)
        | rw [if_neg c1] at hF
      first
        | (subst c2; rw [if_pos rfl, Nat.sub_self] at hF)
        | rw [if_neg c2] at hF
      have HF := hide hF
      clear hF
      go_wp2_with fail
      (try simp only [Exit.inBlock, Exit.then]); refine bodyPost_ret (results_none rfl _ _ _) rfl ?_
      exact ⟨⟨_, rfl⟩, T, HR.out.1, HR.out.2, HF.out⟩
  | false =>
    go_enter Try.func85, Try.ntmps85
    go_wp2_with fail
    refine CH.out.mono ?_
    rintro e w5 ⟨rfl, rfl⟩
    have hl5 := HL.out
    have hm5 : t.m = t.m := rfl
    have hS5 := HS.out
    have hR : (t.tl l).a = t.a.work := by
      unfold RqA.work
      rw [show t.a.log = (o, k) :: l from HL.out]
      dsimp only
      rw [if_neg (show ¬ (o : Int) ∈ t.a.made from of_decide_eq_false HB.out)]
      rfl
    clear CH HCO HS HOK HL HB HV k0 k2 k4 k5 v1 v2 v3 y1 y2 y3 m1 a1 a2 b1 b2 k7 k8
    obtain ⟨-, -, -, -, k4, k5, -, k7, k8⟩ := rq_cells (pre := [x]) hS5
    obtain ⟨g1, f1, hA1, v1, v2, v3, v4⟩ := suf_cell0 (show (sufI 3 1 t.Ao t.log.length t.co (.int .i64 (o : Int) :: log1 l)).P w from by
      have h1 := hS5.get 5 rfl
      rw [show log1 t.log = .int .i64 (o : Int) :: log1 l from by rw [hl5]; rfl] at h1; exact h1)
    obtain ⟨g2, f2, hA2, y1, y2, y3, y4⟩ := suf_cell0 (show (sufI 3 1 t.Af t.log.length t.cf (.int .i64 (k : Int) :: log2 l)).P w from by
      have h1 := hS5.get 6 rfl
      rw [show log2 t.log = .int .i64 (k : Int) :: log2 l from by rw [hl5]; rfl] at h1; exact h1)
    have hF := rq_tail hS5 hl5
    have hln : t.log.length = n := by rw [hl5, List.length_cons, HN.out]; omega
    rw [hln, hA1] at k4
    rw [hln, hA2] at k5
    obtain ⟨T, hT⟩ : ∃ T, t.tl l = T := ⟨_, rfl⟩
    have e1 : T.Ao = if t.co = 1 then some ⟨g1, f1, none⟩ else some ⟨g1, f1 + 1, none⟩ := by
      rw [← hT]
      show (if t.co = 1 then t.Ao else t.Ao.map (·.add (1 * 1))) = _
      rw [hA1, Option.map_some, suf_addr]
    have e2 : T.Af = if t.cf = 1 then some ⟨g2, f2, none⟩ else some ⟨g2, f2 + 1, none⟩ := by
      rw [← hT]
      show (if t.cf = 1 then t.Af else t.Af.map (·.add (1 * 1))) = _
      rw [hA2, Option.map_some, suf_addr]
    have HR := hide (show T.a = t.a.work ∧ T.m = t.m from by rw [← hT]; exact ⟨hR, hm5⟩)
    rw [hT, e1, e2, HN.out] at hF
    obtain ⟨D1, hD1⟩ : ∃ q, t.co = q := ⟨_, rfl⟩
    obtain ⟨D2, hD2⟩ : ∃ q, t.cf = q := ⟨_, rfl⟩
    rw [hD1] at k4 v3 hF
    rw [hD2] at k5 y3 hF
    clear e1 e2 hT hS5 hl5 hA1 hA2 hln v4 y4 hR hD1 hD2 v1 v2 y1 y2
    rcases Decidable.em (D1 = 1) with c1 | c1 <;> rcases Decidable.em (D2 = 1) with c2 | c2
    all_goals
      first
        | (subst c1; rw [if_pos rfl, Nat.sub_self] at hF)
        | rw [if_neg c1] at hF
      first
        | (subst c2; rw [if_pos rfl, Nat.sub_self] at hF)
        | rw [if_neg c2] at hF
      have HF := hide hF
      clear hF
      go_wp2_with fail
      (try simp only [Exit.inBlock, Exit.then]); refine bodyPost_ret (results_none rfl _ _ _) rfl ?_
      exact ⟨⟨_, rfl⟩, T, HR.out.1, HR.out.2, HF.out⟩
end Go.Proofs.Ytjphckfbbiehdaa
