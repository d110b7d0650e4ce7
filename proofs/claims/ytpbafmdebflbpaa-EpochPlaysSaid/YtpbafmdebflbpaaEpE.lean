/- epoch: the next epoch. -/
import Derived.Test.YtpbafmdebflbpaaEpD
namespace Go.Proofs.Ytpbafmdebflbpaa
open Go.RowKit

theorem perm6 {α : Type} (a b c d e f : α) : [a, b, c, d, e, f].Perm [c, a, d, e, f, b] := by
  classical
  rw [List.perm_iff_count]
  intro x
  simp only [List.count_cons, List.count_nil]
  omega
theorem perm6' {α : Type} (a b c d e f : α) : [c, a, d, e, f, b].Perm [a, b, c, d, e, f] := (perm6 a b c d e f).symm

section
variable {F : Nat → Prop} {W w w' : World} {s : Ez} {b b2 : Nat} {by_ : Int}
def Ez.sl (s : Ez) (b b2 : Nat) (by_ : Int) : List Item := s.items ++ [blkI b 126 #[.pointer (some ⟨s.gw, 0, none⟩)], blkI b2 3 #[.int .i64 by_]]
theorem Ez.openDr (h : Sep F W w (s.sl b b2 by_)) : Sep F W w (allI (s.dr b b2 by_ s.Aw s.nw s.cw s.waits) :: [rowI 3 1 s.At s.nt s.ct (ints s.ths)]) := by
  have h1 := h.perm (perm6 _ _ _ _ _ _)
  have h2 := h1.perm (List.perm_append_comm (l₁ := [_]) (l₂ := [_, _, _, _, _]))
  have h3 : Sep F W w (s.dl b b2 by_ ++ [rowI 3 1 s.At s.nt s.ct (ints s.ths), rowI 134 2 s.Aw s.nw s.cw (fates s.waits)]) := h2
  have h4 := h3.join.perm (List.perm_append_comm (l₁ := [_, _]) (l₂ := [_]))
  exact Sep.join (l := [_, _]) h4
theorem Ez.shutDr {A : Option Addr} {n c : Nat} {ws : List (Int × Int)} (h : Sep F W w (allI (s.dr b b2 by_ A n c ws) :: [rowI 3 1 s.At s.nt s.ct (ints s.ths)])) :
    Sep F W (w.setCell ⟨s.gw, 2, none⟩ (.slice A n c)) (Ez.sl { s with Aw := A, nw := n, cw := c, waits := ws } b b2 by_) := by
  have h2 : Sep F W w ([rowI 134 2 A n c (fates ws)] ++ [allI (s.dl b b2 by_), rowI 3 1 s.At s.nt s.ct (ints s.ths)]) := h.split
  have h3 := (h2.perm List.perm_append_comm).split
  have h4 : Sep F W w ([blkI s.gw 130 s.cells, rowI 105 2 s.Af s.nf s.cf (fates s.freed), blkI b 126 #[.pointer (some ⟨s.gw, 0, none⟩)], blkI b2 3 #[.int .i64 by_], rowI 3 1 s.At s.nt s.ct (ints s.ths)] ++ [rowI 134 2 A n c (fates ws)]) := h3
  have h5 := h4.perm (List.perm_append_comm (l₁ := [_, _, _, _, _]) (l₂ := [_]))
  have h6 := h5.perm (perm6' _ _ _ _ _ _)
  have h7 := h6.set_ 0 (g := s.gw) (t := 130) (cs := s.cells) rfl 2 (.slice A n c)
  exact h7
theorem Ez.drFacts {A : Option Addr} {n c : Nat} {ws : List (Int × Int)} (h : Sep F W w (allI (s.dr b b2 by_ A n c ws) :: [rowI 3 1 s.At s.nt s.ct (ints s.ths)])) :
    w.cell? ⟨s.gw, 2, none⟩ = some (.slice s.Aw s.nw s.cw) ∧ (∀ i, w.frozen? ⟨s.gw, i, none⟩ = false) ∧ w.cell? ⟨b, 0, none⟩ = some (.pointer (some ⟨s.gw, 0, none⟩)) := by
  have h2 : Sep F W w ([rowI 134 2 A n c (fates ws)] ++ [allI (s.dl b b2 by_), rowI 3 1 s.At s.nt s.ct (ints s.ths)]) := h.split
  have h3 := (h2.perm List.perm_append_comm).split
  have r0 := h3.rules 0 (g := s.gw) (t := 130) (cs := s.cells) rfl
  have r2 := h3.rules 2 (g := b) (t := 126) (cs := #[.pointer (some ⟨s.gw, 0, none⟩)]) rfl
  exact ⟨by rw [r0.1]; rfl, r0.2.1, by rw [r2.1]; rfl⟩
theorem Ez.setEp (h : Sep F W w (s.sl b b2 by_)) (x : Int) : Sep F W (w.setCell ⟨s.gw, 0, none⟩ (.int .i64 x)) (Ez.sl { s with ep := x } b b2 by_) :=
  h.set_ 0 (g := s.gw) (t := 130) (cs := s.cells) rfl 0 (.int .i64 x)
theorem Ez.toItem (h : Sep F W w (s.sl b b2 by_)) : Sep F W w [s.item] := (h.sub (l := s.items) (by simp [Ez.sl])).fold
theorem Ez.facts {l : List Item} (h : Sep F W w (s.items ++ l)) :
    w.cell? ⟨s.gw, 0, none⟩ = some (.int .i64 s.ep) ∧ w.cell? ⟨s.gw, 1, none⟩ = some (.slice s.At s.nt s.ct) ∧ w.cell? ⟨s.gw, 2, none⟩ = some (.slice s.Aw s.nw s.cw) ∧ w.cell? ⟨s.gw, 3, none⟩ = some (.slice s.Af s.nf s.cf) ∧
    (∀ i, w.frozen? ⟨s.gw, i, none⟩ = false) ∧ s.gw < w.heap.size ∧ Blk w s.gw 130 s.cells ∧ Rd w (fun _ => True) 1 s.At s.nt (ints s.ths) := by
  have h0 := h.rules 0 (g := s.gw) (t := 130) (cs := s.cells) rfl
  exact ⟨by rw [h0.1]; rfl, by rw [h0.1]; rfl, by rw [h0.1]; rfl, by rw [h0.1]; rfl, h0.2.1, h0.2.2.1, h.get 0 rfl, h.rd_ 1 rfl⟩
end

set_option maxHeartbeats 1600000 in
theorem estep_late (w : World) (s : Ez) (by_ : Int) (hs : s.item.P w) (hn : s.nt ≤ 100) (hq : s.ths.any (late s.ep) = true) :
    Calls Try.prog 71 #[.pointer (some ⟨s.gw, 0, none⟩), .int .i64 by_] w fun e w' => e = .returned (.int .i64 8) ∧ Sep s.item.fp w w' [s.item] := by
  have hS0 := (Sep.start hs).flat
  obtain ⟨f1, f2, f3, f4, f5, f6, f7, f8⟩ := Ez.facts (l := []) (by simpa using hS0)
  have C := fun (w' : World) b h1 h2 h3 => contains_late w' (fun _ => True) s.At s.nt s.ct b s.gw s.ep s.cells s.ths hn h1 h2 rfl h3
  rw [hq] at C
  have C1 := hide C
  clear C hq
  go_enter Try.func71, Try.ntmps71
  go_wp2_with fail
  have h1 := (hS0.alloc (.cells #[.pointer (some ⟨s.gw, 0, none⟩)] 126)).alloc (.cells #[.int .i64 by_] 3)
  refine (C1.out _ _ (h1.rd_ 1 rfl) (h1.get 0 rfl) ((Blk.new w 126 #[.pointer (some ⟨s.gw, 0, none⟩)]).alloc _)).mono ?_
  rintro e w1 ⟨rfl, hC⟩
  go_wp2_with fail
  go_ret
  exact ⟨rfl, (h1.chg hC (fun _ _ _ h => h.elim) (fun _ h => h.elim)).fold⟩

set_option maxHeartbeats 4000000 in
theorem estep_ok (w : World) (s : Ez) (by_ : Int) (hs : s.item.P w) (hn : s.nt ≤ 100) (he : 0 ≤ s.ep) (he2 : s.ep ≤ 999) (hw : s.nw ≤ 100) (hf : s.freed.length + s.nw ≤ 10000) (hq : s.ths.any (late s.ep) = false) :
    Calls Try.prog 71 #[.pointer (some ⟨s.gw, 0, none⟩), .int .i64 by_] w fun e w' => ∃ Aw nw cw Af nf cf, e = .returned (.int .i64 0) ∧
      Sep s.item.fp w w' [Ez.item { s with ep := s.ep + 1, Aw := Aw, nw := nw, cw := cw, Af := Af, nf := nf, cf := cf, waits := ekept (s.ep + 1) s.waits, freed := s.freed ++ egone (s.ep + 1) by_ s.waits }] := by
  have hS0 := (Sep.start hs).flat
  obtain ⟨f1, f2, f3, f4, f5, f6, f7, f8⟩ := Ez.facts (l := []) (by simpa using hS0)
  have C := fun (w' : World) b h1 h2 h3 => contains_late w' (fun _ => True) s.At s.nt s.ct b s.gw s.ep s.cells s.ths hn h1 h2 rfl h3
  rw [hq] at C
  have C1 := hide C
  clear C hq
  go_enter Try.func71, Try.ntmps71
  go_wp2_with fail
  have h1 := (hS0.blk 126 #[.pointer (some ⟨s.gw, 0, none⟩)]).blkAt 3 #[.int .i64 by_] (g := w.heap.size + 1) (by simp)
  have h1 : Sep s.item.fp w _ (s.sl w.heap.size (w.heap.size + 1) by_) := h1
  refine (C1.out _ _ (h1.rd_ 1 rfl) (h1.get 0 rfl) ((Blk.new w 126 #[.pointer (some ⟨s.gw, 0, none⟩)]).alloc _)).mono ?_
  rintro e w1 ⟨rfl, hC⟩
  have h2 := h1.chg hC (fun _ _ _ h => h.elim) (fun _ h => h.elim)
  clear h1 hC f1 f2 f3 f4 f5 f6 f7 f8
  have h3 := Ez.setEp h2 (s.ep + 1)
  obtain ⟨f1, f2, f3, f4, f5, f6, f7, f8⟩ := Ez.facts (l := [_, _]) h2
  obtain ⟨k1, k2, k3, k4⟩ := h2.rules 4 (g := w.heap.size) (t := 126) (cs := #[.pointer (some ⟨s.gw, 0, none⟩)]) rfl
  have k5 : w1.cell? ⟨w.heap.size, 0, none⟩ = some (.pointer (some ⟨s.gw, 0, none⟩)) := by rw [k1]; rfl
  have hne : ¬ w.heap.size = s.gw := fun h => by
    have := h2.other (a := 0) (b := 4) (x := blkI s.gw 130 s.cells) (y := blkI w.heap.size 126 #[.pointer (some ⟨s.gw, 0, none⟩)]) rfl rfl (by omega) s.gw rfl
    exact this h.symm
  clear k1 f7 f8
  go_wp2_with fail
  clear f1 f2 f3 f4 f5 f6 h2 k2 k3 k4 k5
  obtain ⟨wz, hz⟩ : ∃ wz, wz = w1.setCell ⟨s.gw, 0, none⟩ (.int .i64 (s.ep + 1)) := ⟨_, rfl⟩
  rw [← hz] at h3 ⊢
  clear hz
  obtain ⟨f1, f2, f3, f4, f5, f6, f7, f8⟩ := Ez.facts (s := { s with ep := s.ep + 1 }) (l := [_, _]) h3
  simp only [] at f1 f2 f3 f4 f5 f6
  obtain ⟨k1, k2, k3, k4⟩ := h3.rules 4 (g := w.heap.size) (t := 126) (cs := #[.pointer (some ⟨s.gw, 0, none⟩)]) rfl
  have k5 : wz.cell? ⟨w.heap.size, 0, none⟩ = some (.pointer (some ⟨s.gw, 0, none⟩)) := by rw [k1]; rfl
  have h5 := Ez.openDr (s := { s with ep := s.ep + 1 }) h3.drew
  clear k1 k2 k4 f1 f2 f4 f7 f8
  go_region_law (first
    | (go_simp
       go_at_call 105
       refine (delete_old _ { s with ep := s.ep + 1 } w.heap.size (w.heap.size + 1) by_ s.Aw s.nw s.cw s.waits (h5.get 0 rfl) (by show (0 : Int) ≤ s.ep + 1; omega) (by show s.ep + 1 ≤ (1000 : Int); omega) hf hw).mono ?_
       rintro e w2 ⟨A', m, c', Af, nf, cf, rfl, hD⟩
       have h6 := h5.call 0 rfl hD.fold
       obtain ⟨g1, g2, g3⟩ := Ez.drFacts (s := { s with ep := s.ep + 1, Af := Af, nf := nf, cf := cf, freed := s.freed ++ egone (s.ep + 1) by_ s.waits }) h6
       simp only [] at g1 g2 g3))
  all_goals
    go_wp2_with fail
    go_ret
    exact ⟨rfl, A', m, c', Af, nf, cf, Ez.toItem (Ez.shutDr (s := { s with ep := s.ep + 1, Af := Af, nf := nf, cf := cf, freed := s.freed ++ egone (s.ep + 1) by_ s.waits }) h6)⟩
end Go.Proofs.Ytpbafmdebflbpaa
