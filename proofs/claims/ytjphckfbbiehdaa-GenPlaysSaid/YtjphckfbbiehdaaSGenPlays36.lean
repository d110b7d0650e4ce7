/- The reference's memory with colours: what it has in memory; it becomes grey. The reference's memory with colours: how many objects are there; the first grey one. The reference's memory with colours: the barriers at whatever deed; an object goes; what is done. The reference of a memory with young and old objects: what it has in memory; how many there are; all is cleared up. The reference of a memory with young and old objects: all is cleared up. The reference of a memory with young and old objects: a field is remembered, plain. -/
import Derived.Test.YtjphckfbbiehdaaSGenPlays31
import Derived.Test.YtjphckfbbiehdaaSGenPlays19
import Derived.Test.YtjphckfbbiehdaaSGenPlays17
import Derived.StillTailTactics
import Derived.Test.YtjphckfbbiehdaaSGenPlays21
import Derived.Test.YtjphckfbbiehdaaSGenPlays13
import Derived.Deep.RegionHeld3
import Derived.Test.YtjphckfbbiehdaaSGenPlays33
import Derived.Test.YtjphckfbbiehdaaSGenPlays32
import Derived.Deep.OwnRows
import Derived.Deep.DeepCutAuto
import Derived.Test.YtjphckfbbiehdaaSGenPlays34
import Derived.Test.YtjphckfbbiehdaaSGenPlays27
import Derived.Test.YtjphckfbbiehdaaSGenPlays14
import Derived.Test.YtjphckfbbiehdaaSGenPlays22
set_option linter.unusedSimpArgs false
set_option linter.unusedVariables false
namespace Go.Proofs.Ytjphckfbbiehdaa
open Go.RowKit
structure SdS where
  Bm : Nat
  m : RMem
  q : Int
  Ac : Option Addr
  cc : Nat
  cols : List Int
def SdS.col (s : SdS) (l : List Int) : SdS := { s with cols := l }
end Go.Proofs.Ytjphckfbbiehdaa

namespace Go.Proofs.Ytjphckfbbiehdaa
open Go.RowKit
theorem bools_at {w : World} {A : Option Addr} {n c : Nat} {l : List Bool} (h : (rowI 4 1 A n c (bools l)).P w) {z : Nat} (hz : z < n) : ∃ g, A = some ⟨g, 0, none⟩ ∧ ∃ hl : z < l.length, w.cell? ⟨g, z, none⟩ = some (.bool l[z]) ∧ w.frozen? ⟨g, z, none⟩ = false ∧ g < w.heap.size := by
  have ho : w.ownsRow 0 4 1 (.slice A n c) n (bools l) := h
  have hl : l.length = n := by have := ho.1; simpa [bools] using this
  obtain ⟨g, hA⟩ := hown_addr ho (by omega)
  subst hA
  obtain ⟨fd, hA, _, hb, hc⟩ := (Rd.of_own (D := fun _ => True) ho (fun _ _ => trivial)).at_ hz
  obtain rfl : (⟨g, 0, none⟩ : Addr) = fd := by injection hA
  have e := hc (.bool l[z]) (by simp [bools, List.getElem?_eq_getElem (show z < l.length by omega)])
  rw [hraddr0] at e
  exact ⟨g, rfl, by omega, e, ho.frozenAt _, hb⟩
theorem rm_gone {Bm : Nat} {s : RMem} {w : World} (hP : (rmI Bm s).P w) : (rowI 4 1 s.Ag s.gone.length s.cg (bools s.gone)).P w := ((Sep.start hP).flat).get 3 rfl
end Go.Proofs.Ytjphckfbbiehdaa

namespace Go.Proofs.Ytjphckfbbiehdaa
open Go.RowKit
def SdS.t (s : SdS) (gl : List Int) : RT := ⟨absR s.m, s.m.gone, s.cols, gl⟩
def RMem.setG (m : RMem) (j : Nat) : RMem := { m with gone := m.gone.set j true }
theorem rm_setG {Bm : Nat} {m : RMem} {w : World} (hP : (rmI Bm m).P w) {j gg : Nat} (hA : m.Ag = some ⟨gg, 0, none⟩) : Sep (rmI Bm m).fp w (w.setCell ⟨gg, j, none⟩ (.bool true)) [rmI Bm (m.setG j)] := by
  have hS : Sep (rmI Bm m).fp w w ([blkI Bm 176 #[.slice (some ⟨m.gr, 0, none⟩) m.regs.length m.cR, .slice m.Ao m.obs.length m.co, .slice m.Ag m.gone.length m.cg], rowI 107 2 (some ⟨m.gr, 0, none⟩) m.regs.length m.cR (vals m.regs), rowI 119 1 m.Ao m.obs.length m.co (m.obs.map Ob.val), rowI 4 1 m.Ag m.gone.length m.cg (bools m.gone)] ++ m.obs.map obI) := (Sep.start hP).flat
  have he : rowI 4 1 m.Ag m.gone.length m.cg (bools m.gone) = rowI 4 1 (some ⟨gg, 0, none⟩) m.gone.length m.cg (bools m.gone) := by rw [hA]
  rw [he] at hS
  have h1 := hS.store 3 (g := gg) rfl j (.bool true)
  refine Sep.fold (l := rmL Bm (m.setG j)) ?_
  unfold rmL RMem.setG
  dsimp only
  rw [List.length_set, show bools (m.gone.set j true) = (bools m.gone).set j (.bool true) from by simp [bools, List.map_set], hA]
  rw [hA] at h1
  exact h1
end Go.Proofs.Ytjphckfbbiehdaa

namespace Go.Proofs.Ytjphckfbbiehdaa
open Go.RowKit
set_option maxRecDepth 100000 in
set_option maxHeartbeats 4000000 in
theorem garead_any {Bm : Nat} {s : RMem} {w : World} (hP : (rmI Bm s).P w) (ok : ROk s) :
    Calls Try.prog 174 #[.pointer (some ⟨Bm, 0, none⟩)] w fun e w' => ∃ A n c, e = .returned (.slice A n c) ∧ Sep No w w' [rowI 3 1 A n c (ints (reachR (absR s).objs (absR s).regs))] := by
  obtain ⟨hO, hR⟩ := rm_obsRd hP
  have hb : Below w.heap.size w w.drew := (Below.refl _ w).drew
  have hG := graphRd_of (cO := s.co) (hO.below hb) (cR := s.cR) (hR.below hb)
  have hf4 := ok.m.f4
  have hn := ok.n
  have h8 := ok.m.r8
  have C := hide (reach_any w.drew _ (s.obs.map Ob.fields) s.regs hG (by rw [List.length_map]; omega) (by have : s.regs.length = 8 := h8; omega) (fun fs hfs => by have := hf4 fs hfs; omega))
  obtain ⟨m0, m1, _, m3, _⟩ := rm_mem hP
  have hR2 : reachR (absR s).objs (absR s).regs = reachR (s.obs.map Ob.fields) s.regs := rfl
  rw [hR2]
  obtain ⟨R, hRR⟩ : ∃ R, reachR (s.obs.map Ob.fields) s.regs = R := ⟨_, rfl⟩
  rw [hRR] at C ⊢
  clear hO hR hG hf4 hn h8 hP ok hR2 hRR hb
  go_enter Try.func174, Try.ntmps174
  go_wp2_with fail
  go_region_held3 (fun w' => w'.cell? ⟨Bm, 0, none⟩ = some (.slice (some ⟨s.gr, 0, none⟩) s.regs.length s.cR) ∧ w'.cell? ⟨Bm, 1, none⟩ = some (.slice s.Ao s.obs.length s.co)) (first | go_keep | (simp only [World.cell?_drew]; assumption) | assumption)
    ((go_at_call 191; (with_reducible refine C.out.mono ?_); rintro e w2 ⟨A, n, c, rfl, hP2⟩; have HP2 := hide hP2; have hb2 := hP2.below_; have q0 := (World.cell?_of_block (a := ⟨Bm, 0, none⟩) (hb2.block Bm m3)).trans m0; have q1 := (World.cell?_of_block (a := ⟨Bm, 1, none⟩) (hb2.block Bm m3)).trans m1; clear hP2 hb2))
  all_goals
    go_wp2_with fail
    go_ret
    have h := HP2.out
    exact ⟨A, n, c, rfl, ⟨Chg.trans ((Chg.refl No w).drew) h.bel (fun g hg => hg.elim), h.all, h.own, h.apart⟩⟩
structure GaT where
  s : RMem
  Ao : Option Addr
  oc : Nat
  old : List Bool
  Am : Option Addr
  cm : Nat
  mks : List Gp
def GaT.a (t : GaT) : GrA := ⟨absR t.s, t.old, t.s.gone, t.mks⟩
def gaC (Bm : Nat) (t : GaT) : Array Value := #[.pointer (some ⟨Bm, 0, none⟩), .slice t.Ao t.old.length t.oc, .slice t.Am t.mks.length t.cm]
def gaL (Ba Bm : Nat) (t : GaT) : List Item := [blkI Ba 205 (gaC Bm t), rowI 4 1 t.Ao t.old.length t.oc (bools t.old), rowI 174 2 t.Am t.mks.length t.cm (gpsV t.mks), rmI Bm t.s]
def gaI (Ba Bm : Nat) (t : GaT) : Item := allI (gaL Ba Bm t)
theorem ga_flat {Ba Bm : Nat} {t : GaT} {w : World} (hP : (gaI Ba Bm t).P w) : Sep (gaI Ba Bm t).fp w w (gaL Ba Bm t) := (Sep.start hP).flat
theorem ga_fold {Ba Bm : Nat} {t : GaT} {F : Nat → Prop} {W w : World} (h : Sep F W w (gaL Ba Bm t)) : Sep F W w [gaI Ba Bm t] := Sep.fold (l := gaL Ba Bm t) h
theorem ga_cells {Ba Bm : Nat} {t : GaT} {w : World} (hP : (gaI Ba Bm t).P w) :
    w.cell? ⟨Ba, 0, none⟩ = some (.pointer (some ⟨Bm, 0, none⟩)) ∧ w.cell? ⟨Ba, 1, none⟩ = some (.slice t.Ao t.old.length t.oc) ∧ w.cell? ⟨Ba, 2, none⟩ = some (.slice t.Am t.mks.length t.cm) ∧ (∀ i, w.frozen? ⟨Ba, i, none⟩ = false) ∧ Ba < w.heap.size ∧ (rmI Bm t.s).P w ∧ Bm < w.heap.size ∧ w.cell? ⟨Bm, 2, none⟩ = some (.slice t.s.Ag t.s.gone.length t.s.cg) := by
  have hS := ga_flat hP
  obtain ⟨c1, c2, c3, -⟩ := hS.rules 0 (g := Ba) (t := 205) (cs := gaC Bm t) rfl
  have hm := hS.get 3 rfl
  obtain ⟨-, -, m2, m3, -⟩ := rm_mem hm
  exact ⟨(c1 0).trans rfl, (c1 1).trans rfl, (c1 2).trans rfl, c2, c3, hm, m3, m2⟩
theorem bo_at {w : World} {A : Option Addr} {n c : Nat} {l : List Bool} (h : (rowI 4 1 A n c (bools l)).P w) {z : Nat} (hz : z < n) : ∃ g, A = some ⟨g, 0, none⟩ ∧ w.cell? ⟨g, z, none⟩ = some (.bool (l.getD z false)) ∧ w.frozen? ⟨g, z, none⟩ = false ∧ g < w.heap.size := by
  obtain ⟨g, hA, hl, h1, h2, h3⟩ := bools_at h hz
  exact ⟨g, hA, by rw [h1, List.getD_eq_getElem?_getD, List.getElem?_eq_getElem hl]; rfl, h2, h3⟩
theorem ga_old {Ba Bm : Nat} {t : GaT} {w : World} (hP : (gaI Ba Bm t).P w) {z : Nat} (hz : z < t.old.length) : ∃ g, t.Ao = some ⟨g, 0, none⟩ ∧ w.cell? ⟨g, z, none⟩ = some (.bool (t.a.od z)) ∧ w.frozen? ⟨g, z, none⟩ = false ∧ g < w.heap.size :=
  bo_at ((ga_flat hP).get 1 rfl) hz
theorem ga_gone {Ba Bm : Nat} {t : GaT} {w : World} (hP : (gaI Ba Bm t).P w) {z : Nat} (hz : z < t.s.gone.length) : ∃ g, t.s.Ag = some ⟨g, 0, none⟩ ∧ w.cell? ⟨g, z, none⟩ = some (.bool (t.a.gn z)) ∧ w.frozen? ⟨g, z, none⟩ = false ∧ g < w.heap.size :=
  bo_at (rm_gone (ga_cells hP).2.2.2.2.2.1) hz
/-! ### How many. -/
def manyK (r : GrA) (b : Bool) (k : Nat) : Nat := ((List.range k).filter fun i => !r.gn i && (r.od i == b)).length
theorem manyK_succ (r : GrA) (b : Bool) (k : Nat) : manyK r b (k + 1) = manyK r b k + if (!r.gn k && (r.od k == b)) = true then 1 else 0 := by
  unfold manyK
  rw [List.range_succ, List.filter_append, List.length_append, List.filter_cons, List.filter_nil]
  split <;> rfl
set_option maxRecDepth 100000 in
set_option maxHeartbeats 16000000 in
theorem gamany_any {Ba Bm : Nat} {t : GaT} {w : World} (hP : (gaI Ba Bm t).P w) (hl : t.s.gone.length = t.old.length) (hn : t.old.length ≤ 600) (b : Bool) :
    Calls Try.prog 153 #[.pointer (some ⟨Ba, 0, none⟩), .bool b] w fun e w' => e = .returned (.int .i64 (t.a.many b : Nat)) ∧ w' = w := by
  obtain ⟨c0, c1, -, -, c4, -, c6, c7⟩ := ga_cells hP
  have HOLD := hide (fun z (hz : z < t.old.length) => ga_old hP hz)
  have HGON := hide (fun z (hz : z < t.s.gone.length) => ga_gone hP hz)
  rw [hl] at HGON c7
  have HRES := hide (show manyK t.a b t.old.length = t.a.many b from rfl)
  obtain ⟨N, hN⟩ : ∃ n, t.old.length = n := ⟨_, rfl⟩
  rw [hN] at HOLD HGON HRES c1 c7 hn
  clear hP hl hN
  go_enter Try.func153, Try.ntmps153
  go_wp2_with fail
  go_loopw [5, 6] (fun n i wr => wr = w ∧ ∃ (k c : Nat), k ≤ N ∧ c ≤ k ∧ i = .int .i64 k ∧ n = .int .i64 c ∧ Hid (manyK t.a b k = c)) (fun _ i _ => N - (intOf i).toNat)
  case atStart => exact ⟨rfl, 0, 0, by omega, by omega, rfl, rfl, hide rfl⟩
  case round =>
    obtain ⟨rfl, k, c, hk, hc, rfl, rfl, HM⟩ := hrel
    by_cases hlt : k < N
    · obtain ⟨g1, h1, e1, -, e3⟩ := HOLD.out k hlt
      obtain ⟨g2, h2, f1, -, f3⟩ := HGON.out k hlt
      rw [h1] at c1
      rw [h2] at c7
      have hs := manyK_succ t.a b k
      rw [HM.out] at hs
      obtain ⟨y1, hy1⟩ : ∃ y, t.a.od k = y := ⟨_, rfl⟩
      obtain ⟨y2, hy2⟩ : ∃ y, t.a.gn k = y := ⟨_, rfl⟩
      rw [hy1] at e1 hs
      rw [hy2] at f1 hs
      have t1 : (k : Int) < (N : Int) := by omega
      clear hy1 hy2 h1 h2
      cases y2 with
      | true =>
        have HS := hide (show manyK t.a b (k + 1) = c from by rw [hs]; rfl)
        clear hs HM
        go_wp2_with fail
        go_roundw
        case rel => exact ⟨by first | trivial | rfl, k + 1, c, by omega, by omega, by go_num, rfl, HS⟩
        case measure => simp [intOf]; omega
      | false =>
        cases y1 <;> cases b
        all_goals
          first
          | (have HS := hide (show manyK t.a _ (k + 1) = c + 1 from by rw [hs]; rfl)
             clear hs HM
             go_wp2_with fail
             go_roundw
             case rel => exact ⟨by first | trivial | rfl, k + 1, c + 1, by omega, by omega, by go_num, by go_num, HS⟩
             case measure => simp [intOf]; omega)
          | (have HS := hide (show manyK t.a _ (k + 1) = c from by rw [hs]; rfl)
             clear hs HM
             go_wp2_with fail
             go_roundw
             case rel => exact ⟨by first | trivial | rfl, k + 1, c, by omega, by omega, by go_num, rfl, HS⟩
             case measure => simp [intOf]; omega)
    · obtain rfl : k = N := by omega
      have hm := HM.out
      rw [HRES.out] at hm
      go_wp2_with fail
      go_ret
      exact ⟨by rw [hm]; rfl, rfl⟩
/-! ### A row turned up to a place. -/
def updK (f : Nat → Bool) (l : List Bool) (k : Nat) : List Bool := (List.range k).map f ++ l.drop k
theorem updK_len (f : Nat → Bool) (l : List Bool) {k : Nat} (hk : k ≤ l.length) : (updK f l k).length = l.length := by
  unfold updK; simp; omega
theorem updK_get (f : Nat → Bool) (l : List Bool) {k : Nat} (hk : k < l.length) : (updK f l k).getD k false = l.getD k false := by
  unfold updK
  rw [List.getD_eq_getElem?_getD, List.getElem?_append_right (by simp), List.length_map, List.length_range, Nat.sub_self, List.getElem?_drop, List.getD_eq_getElem?_getD]
  rfl
theorem updK_succ (f : Nat → Bool) (l : List Bool) {k : Nat} (hk : k < l.length) : updK f l (k + 1) = (updK f l k).set k (f k) := by
  unfold updK
  rw [List.set_append_right _ _ (by simp), List.length_map, List.length_range, Nat.sub_self, List.range_succ, List.map_append, List.drop_eq_getElem_cons hk, List.append_assoc]
  rfl
theorem updK_same (f : Nat → Bool) (l : List Bool) {k : Nat} (hk : k < l.length) (h : f k = l.getD k false) : updK f l (k + 1) = updK f l k := by
  rw [updK_succ f l hk]
  refine List.ext_getElem? fun j => ?_
  rw [List.getElem?_set]
  by_cases e : k = j
  · subst e
    have h1 := updK_get f l hk
    have h2 : k < (updK f l k).length := by rw [updK_len f l (by omega)]; exact hk
    rw [List.getD_eq_getElem?_getD, List.getElem?_eq_getElem h2] at h1
    rw [if_pos rfl, if_pos h2, List.getElem?_eq_getElem h2, h, ← h1]
    rfl
  · rw [if_neg e]
theorem updK_all (f : Nat → Bool) (l : List Bool) {k : Nat} (hk : l.length ≤ k) : updK f l k = (List.range k).map f := by
  unfold updK; rw [List.drop_eq_nil_of_le hk, List.append_nil]
theorem range_true (n : Nat) : (List.range n).map (fun _ => true) = List.replicate n true := by
  refine List.ext_getElem (by simp) fun i h1 h2 => by simp
def RMem.gon (m : RMem) (l : List Bool) : RMem := { m with gone := l }
def GaT.up (t : GaT) (o g : List Bool) : GaT := { t with s := t.s.gon g, old := o }
/-- An old one; a gone one. -/
theorem ga_setO {F : Nat → Prop} {W w : World} {Ba Bm : Nat} {t : GaT} {pre L : List Item} {go : Nat} (h : Sep F W w (pre ++ (gaL Ba Bm t ++ L))) (hA : t.Ao = some ⟨go, 0, none⟩) (j : Nat) (b : Bool) :
    Sep F W (w.setCell ⟨go, j, none⟩ (.bool b)) (pre ++ (gaL Ba Bm { t with old := t.old.set j b } ++ L)) := by
  have h1 := h.store (pre.length + 1) (g := go) (e := 4) (size := 1) (n := t.old.length) (c := t.oc) (xs := bools t.old) (by rw [List.getElem?_append_right (by omega)]; simp [gaL, hA]) j (.bool b)
  have e : (pre ++ (gaL Ba Bm t ++ L)).set (pre.length + 1) (rowI 4 1 (some ⟨go, 0, none⟩) t.old.length t.oc ((bools t.old).set j (.bool b))) = pre ++ (gaL Ba Bm { t with old := t.old.set j b } ++ L) := by
    rw [List.set_append_right _ _ (by omega), show (bools t.old).set j (.bool b) = bools (t.old.set j b) from by simp [bools, List.map_set]]
    simp [gaL, gaC, List.length_set, hA]
  rw [← e]
  exact h1
theorem ga_setG {F : Nat → Prop} {W w : World} {Ba Bm : Nat} {t : GaT} {pre L : List Item} {gg : Nat} (h : Sep F W w (pre ++ (gaL Ba Bm t ++ L))) (hA : t.s.Ag = some ⟨gg, 0, none⟩) (j : Nat) :
    Sep F W (w.setCell ⟨gg, j, none⟩ (.bool true)) (pre ++ (gaL Ba Bm { t with s := t.s.setG j } ++ L)) := by
  have hk : (pre ++ (gaL Ba Bm t ++ L))[pre.length + 3]? = some (rmI Bm t.s) := by rw [List.getElem?_append_right (by omega)]; simp [gaL]
  have h1 := h.call (pre.length + 3) hk (rm_setG (h.get _ hk) (j := j) hA)
  have e : (pre ++ (gaL Ba Bm t ++ L)).set (pre.length + 3) (rmI Bm (t.s.setG j)) = pre ++ (gaL Ba Bm { t with s := t.s.setG j } ++ L) := by
    rw [List.set_append_right _ _ (by omega)]
    simp [gaL, gaC]
  rw [← e]
  exact h1
theorem ga_get {F : Nat → Prop} {W w : World} {Ba Bm : Nat} {t : GaT} {pre L : List Item} (h : Sep F W w (pre ++ (gaL Ba Bm t ++ L))) : (gaI Ba Bm t).P w := by
  have h1 : Sep F W w ((gaL Ba Bm t ++ L) ++ pre) := h.perm List.perm_append_comm
  rw [List.append_assoc] at h1
  exact (Sep.join h1).get 0 rfl
theorem ga_apart {F : Nat → Prop} {W w : World} {Ba Bm : Nat} {t : GaT} {pre L : List Item} (h : Sep F W w (pre ++ (gaL Ba Bm t ++ L))) {go gg : Nat} (hA : t.Ao = some ⟨go, 0, none⟩) (hB : t.s.Ag = some ⟨gg, 0, none⟩) : go ≠ gg ∧ go ≠ Ba ∧ gg ≠ Ba ∧ go ≠ Bm ∧ gg ≠ Bm := by
  have hS := ga_flat (ga_get h)
  have hm := (Sep.start (hS.get 3 rfl)).flat
  have hgg : (rmI Bm t.s).fp gg := ⟨_, List.mem_cons_of_mem _ (List.mem_cons_of_mem _ (List.mem_cons_of_mem _ (List.mem_cons_self ..))), by show (Value.slice t.s.Ag t.s.gone.length t.s.cg).ownBlock = some gg; rw [hB]; rfl⟩
  have hbm : (rmI Bm t.s).fp Bm := ⟨_, List.mem_cons_self .., rfl⟩
  have hgo : (rowI 4 1 t.Ao t.old.length t.oc (bools t.old)).fp go := by show (Value.slice t.Ao t.old.length t.oc).ownBlock = some go; rw [hA]; rfl
  refine ⟨fun e => hS.other (a := 1) (b := 3) rfl rfl (by omega) go hgo (e ▸ hgg), fun e => hS.other (a := 1) (b := 0) rfl rfl (by omega) go hgo e, fun e => hS.other (a := 3) (b := 0) rfl rfl (by omega) gg hgg e, fun e => hS.other (a := 1) (b := 3) rfl rfl (by omega) go hgo (e ▸ hbm), fun e => ?_⟩
  exact hm.other (a := 3) (b := 0) rfl rfl (by omega) gg (by show (Value.slice t.s.Ag t.s.gone.length t.s.cg).ownBlock = some gg; rw [hB]; rfl) e
end Go.Proofs.Ytjphckfbbiehdaa

namespace Go.Proofs.Ytjphckfbbiehdaa
open Go.RowKit
theorem ga_setN {F : Nat → Prop} {W w : World} {Ba Bm : Nat} {t : GaT} {L : List Item} (h : Sep F W w (gaL Ba Bm t ++ L)) : Sep F W (w.setCell ⟨Ba, 2, none⟩ (.slice none 0 0)) (gaL Ba Bm { t with Am := none, cm := 0, mks := [] } ++ L) := by
  have h1 := h.set_ 0 (g := Ba) (t := 205) (cs := gaC Bm t) rfl 2 (.slice none 0 0)
  exact h1.step 2 rfl (Chg.refl _ _) (rowI 174 2 none 0 0 []) (rowI_nil_P _ _ _) (fun g hg => by cases hg)
theorem reach_lenG (gs : List (List Val)) (vs : List Val) : (reachR gs vs).length ≤ gs.length := by
  unfold reachR
  rw [List.length_map]
  have := List.length_filter_le (fun (i : Nat) => decide (0 ≤ (distR gs vs).getD i 0)) (List.range gs.length)
  simpa using this
set_option maxRecDepth 100000 in
set_option maxHeartbeats 32000000 in
theorem gamajor_any {Ba Bm : Nat} {t : GaT} {w : World} (hP : (gaI Ba Bm t).P w) (ok : ROk t.s) (hl : t.s.gone.length = t.old.length) (hn : t.old.length ≤ 600) :
    Calls Try.prog 152 #[.pointer (some ⟨Ba, 0, none⟩)] w fun e w' => (∃ u, e = .returned u) ∧ ∃ t' : GaT, t'.a = t.a.major ∧ t'.s.gone.length = t'.s.obs.length ∧ Sep (gaI Ba Bm t).fp w w' [gaI Ba Bm t'] := by
  obtain ⟨c0, -, -, -, c4, c5, c6, -⟩ := ga_cells hP
  have C1 := hide (garead_any c5 ok)
  have HRL := hide (show (reachR (absR t.s).objs (absR t.s).regs).length ≤ 1000 from by
    have h1 := reach_lenG (absR t.s).objs (absR t.s).regs
    have h2 : (absR t.s).objs.length = t.s.obs.length := List.length_map ..
    have := ok.n
    omega)
  obtain ⟨R, hR⟩ : ∃ R, reachR (absR t.s).objs (absR t.s).regs = R := ⟨_, rfl⟩
  rw [hR] at C1 HRL
  have HF := hide (ga_flat hP)
  have HRES := hide (fun (X : World) (hX : Sep (gaI Ba Bm t).fp w X (gaL Ba Bm { t.up (updK (fun _ => true) t.old t.old.length) (updK (fun i => t.a.gn i || !decide ((i : Int) ∈ R)) t.s.gone t.old.length) with Am := none, cm := 0, mks := [] } ++ [])) =>
    (show ∃ t' : GaT, t'.a = t.a.major ∧ t'.s.gone.length = t'.s.obs.length ∧ Sep (gaI Ba Bm t).fp w X [gaI Ba Bm t'] from by
      refine ⟨_, ?_, ?_, ga_fold (by rw [List.append_nil] at hX; exact hX)⟩
      · show (⟨absR t.s, updK _ t.old _, updK _ t.s.gone _, []⟩ : GrA) = _
        rw [updK_all _ _ (Nat.le_refl _), updK_all _ _ (by rw [hl]; exact Nat.le_refl _), range_true]
        unfold GrA.major
        rw [← hR]
        rfl
      · show (updK _ t.s.gone _).length = t.s.obs.length
        rw [updK_len _ _ (by rw [hl]; exact Nat.le_refl _)]
        exact ok.k))
  have HLO := hide (fun k (hk : k ≤ t.old.length) => updK_len (fun _ => true) t.old hk)
  have HLG := hide (fun k (hk : k ≤ t.old.length) => updK_len (fun i => t.a.gn i || !decide ((i : Int) ∈ R)) t.s.gone (k := k) (by rw [hl]; exact hk))
  have HGS := hide (fun k (hk : k < t.old.length) => updK_succ (fun i => t.a.gn i || !decide ((i : Int) ∈ R)) t.s.gone (k := k) (by rw [hl]; exact hk))
  have HGM := hide (fun k (hk : k < t.old.length) (h : (t.a.gn k || !decide ((k : Int) ∈ R)) = t.a.gn k) => updK_same (fun i => t.a.gn i || !decide ((i : Int) ∈ R)) t.s.gone (k := k) (by rw [hl]; exact hk) h)
  have HOS := hide (fun k (hk : k < t.old.length) => updK_succ (fun _ => true) t.old (k := k) hk)
  obtain ⟨fG, hfG⟩ : ∃ f : Nat → Bool, (fun i => t.a.gn i || !decide ((i : Int) ∈ R)) = f := ⟨_, rfl⟩
  rw [hfG] at HRES HLG HGS HGM
  have HFG := hide (fun k => show fG k = (t.a.gn k || !decide ((k : Int) ∈ R)) from by rw [← hfG])
  have HGL := hide hl
  obtain ⟨N, hN⟩ : ∃ n, t.old.length = n := ⟨_, rfl⟩
  rw [hN] at HRES HLO HLG HGS HGM HOS HGL hn
  clear hP ok hl hR c5 hfG hN
  go_enter Try.func152, Try.ntmps152
  go_wp2_with fail
  refine C1.out.mono ?_
  rintro e w1 ⟨A2, n2, cc2, rfl, hP1⟩
  have hn2 : R.length = n2 := by have := (show w1.ownsRow 0 3 1 (.slice A2 n2 cc2) n2 (ints R) from hP1.get 0 rfl).1; simpa using this
  have HN2 := hide (show n2 ≤ 1000 by rw [← hn2]; exact HRL.out)
  have HS1 := hide (show Sep (gaI Ba Bm t).fp w w1 ([rowI 3 1 A2 n2 cc2 (ints R)] ++ (gaL Ba Bm (t.up (updK (fun _ => true) t.old 0) (updK fG t.s.gone 0)) ++ [])) from
    HF.out.consNew hP1.below_ _ (hP1.get 0 rfl) (fun g hg => (hP1.lo 0 rfl g hg).resolve_left (fun h => h)))
  clear hP1 C1 HF hn2 c0 c4 c6 HRL
  go_wp2_with fail
  go_loopw [3] (fun i wr => ∃ (k : Nat), k ≤ N ∧ i = .int .i64 k ∧ Sep (gaI Ba Bm t).fp w wr ([rowI 3 1 A2 n2 cc2 (ints R)] ++ (gaL Ba Bm (t.up (updK (fun _ => true) t.old k) (updK fG t.s.gone k)) ++ []))) (fun i _ => N - (intOf i).toNat)
  case atStart => exact ⟨0, by omega, rfl, HS1.out⟩
  case round =>
    clear HS1
    obtain ⟨k, hk, rfl, hS⟩ := hrel
    obtain ⟨tk, htk⟩ : ∃ q, t.up (updK (fun _ => true) t.old k) (updK fG t.s.gone k) = q := ⟨_, rfl⟩
    have hlo : tk.old.length = N := by rw [← htk]; exact HLO.out k hk
    have hlg : tk.s.gone.length = N := by rw [← htk]; exact (HLG.out k hk).trans HGL.out
    have hS' := hS
    rw [htk] at hS
    have hPk := ga_get hS
    obtain ⟨c0, c1, c2, c3, c4, -, c6, c7⟩ := ga_cells hPk
    rw [hlo] at c1
    rw [hlg] at c7
    by_cases hlt : k < N
    · obtain ⟨go, ho1, ho2, ho3, ho4⟩ := ga_old hPk (z := k) (by rw [hlo]; exact hlt)
      obtain ⟨gg, hg1, hg2, hg3, hg4⟩ := ga_gone hPk (z := k) (by rw [hlg]; exact hlt)
      obtain ⟨n1, n2', n3, n4, n5⟩ := ga_apart hS ho1 hg1
      have hso := ga_setO hS ho1 k true
      have hrd := hso.rd_ 0 rfl
      have CH := hide (has_any _ (fun _ => True) A2 n2 cc2 R (k : Int) (by have := HN2.out; omega) hrd)
      have hsg := ga_setG hso (gg := gg) hg1 k
      have HOK := hide (HOS.out k hlt)
      have HGK := hide (HGS.out k hlt)
      have HGE := hide (HGM.out k hlt)
      have HFK := hide (HFG.out k)
      have HSO := hide hso
      have HSG := hide hsg
      have HTK := hide htk
      have t1 : (k : Int) < (N : Int) := by omega
      rw [ho1] at c1
      rw [hg1] at c7
      have e1 : go ≠ gg := n1
      have e2 : gg ≠ go := fun h => n1 h.symm
      have e3 : Ba ≠ go := fun h => n2' h.symm
      have e4 : Bm ≠ go := fun h => n4 h.symm
      unfold RetB at CH
      by_cases hm : (k : Int) ∈ R
      · rw [decide_eq_true hm] at CH HGE
        have HE2 := hide (show updK fG t.s.gone (k + 1) = updK fG t.s.gone k from HGE.out (by simp))
        clear hS hS' hPk hso hsg hrd HGE htk hm c2 ho1 hg1
        go_wp2_with fail
        refine CH.out.mono ?_
        rintro e w2 ⟨rfl, rfl⟩
        clear CH
        go_wp2_with fail
        go_roundw
        case rel => exact ⟨k + 1, by omega, by go_num, by
          rw [HOK.out, HE2.out]
          have h := HSO.out
          rw [← HTK.out] at h
          exact h⟩
        case measure => simp [intOf]; omega
      · rw [decide_eq_false hm] at CH HFK
        have HE2 := hide (show updK fG t.s.gone (k + 1) = (updK fG t.s.gone k).set k true from by rw [HGK.out]; simp [hm])
        clear hS hS' hPk hso hsg hrd HGE htk hm c2 ho1 hg1
        go_wp2_with fail
        refine CH.out.mono ?_
        rintro e w2 ⟨rfl, rfl⟩
        clear CH
        go_wp2_with fail
        go_roundw
        case rel => exact ⟨k + 1, by omega, by go_num, by
          rw [HOK.out, HE2.out]
          have h := HSG.out
          rw [← HTK.out] at h
          exact h⟩
        case measure => simp [intOf]; omega
    · obtain rfl : k = N := by omega
      have hsn := ga_setN (L := [rowI 3 1 A2 n2 cc2 (ints R)]) (hS.perm (by
        rw [List.append_nil]
        exact List.perm_append_comm (l₁ := [_])))
      have HSN := hide (hsn.sub (l := gaL Ba Bm { tk with Am := none, cm := 0, mks := [] } ++ []) (by rw [List.append_nil]; exact List.sublist_append_left _ _))
      have HTK := hide htk
      clear hS hS' hPk hsn htk
      go_wp2_with fail
      go_end0
      refine ⟨⟨_, rfl⟩, HRES.out _ ?_⟩
      have h := HSN.out
      rw [← HTK.out] at h
      exact h
end Go.Proofs.Ytjphckfbbiehdaa

namespace Go.Proofs.Ytjphckfbbiehdaa
open Go.RowKit
def lePB (f x : Gp) : Bool := decide (f.1 < x.1) || (decide (f.1 = x.1) && decide (f.2 ≤ x.2))
theorem lePB_iff (f x : Gp) : lePB f x = true ↔ ¬ ltP x f := by
  unfold lePB ltP
  simp only [Bool.or_eq_true, Bool.and_eq_true, decide_eq_true_eq]
  omega
def remS (f : Gp) (s : List Gp × Bool) (x : Gp) : List Gp × Bool :=
  ((if !s.2 && lePB f x then s.1 ++ [f] else s.1) ++ (if x = f then [] else [x]), s.2 || lePB f x)
def remK (f : Gp) (l : List Gp) (k : Nat) : List Gp × Bool := (l.take k).foldl (remS f) ([], false)
theorem remK_succ (f : Gp) (l : List Gp) {k : Nat} (hk : k < l.length) : remK f l (k + 1) = remS f (remK f l k) l[k] := by
  unfold remK
  rw [List.take_succ_eq_append_getElem hk, List.foldl_append]
  rfl
theorem rem_put (f : Gp) : ∀ (l acc : List Gp), (∀ x ∈ l, ltP f x) → l.foldl (remS f) (acc, true) = (acc ++ l, true)
  | [], acc, _ => by simp
  | x :: l, acc, h => by
    have hx : x ≠ f := fun e => by subst e; exact ltP_irr (h x (List.mem_cons_self ..))
    rw [List.foldl_cons]
    have e : remS f (acc, true) x = (acc ++ [x], true) := by unfold remS; simp [hx]
    rw [e, rem_put f l _ (fun y hy => h y (List.mem_cons_of_mem _ hy)), List.append_assoc]
    rfl
theorem rem_all (f : Gp) : ∀ (l acc : List Gp), l.Pairwise ltP → (let s := l.foldl (remS f) (acc, false); if s.2 = true then s.1 else s.1 ++ [f]) = acc ++ insF f l
  | [], acc, _ => by simp [insF]
  | x :: l, acc, h => by
    obtain ⟨h1, h2⟩ := List.pairwise_cons.1 h
    rw [List.foldl_cons]
    unfold insF
    by_cases hx : ltP x f
    · have hl : lePB f x = false := by
        cases hb : lePB f x with
        | false => rfl
        | true => exact absurd hx ((lePB_iff f x).1 hb)
      have hn : x ≠ f := fun e => by subst e; exact ltP_irr hx
      have e : remS f (acc, false) x = (acc ++ [x], false) := by unfold remS; simp [hn, hl]
      rw [e, rem_all f l _ h2, if_pos hx, List.append_assoc]
      rfl
    · have hl : lePB f x = true := (lePB_iff f x).2 hx
      rw [if_neg hx]
      by_cases hn : x = f
      · subst hn
        have e : remS x (acc, false) x = (acc ++ [x], true) := by unfold remS; simp [hl]
        rw [e, rem_put x l _ h1, if_pos rfl, List.append_assoc]
        simp
      · have hfx : ltP f x := by
          rcases ltP_tri x f with h3 | h3 | h3
          · exact absurd h3 hx
          · exact absurd h3 hn
          · exact h3
        have e : remS f (acc, false) x = (acc ++ [f, x], true) := by unfold remS; simp [hl, hn]
        rw [e, rem_put f l _ (fun y hy => ltP_trans hfx (h1 y hy)), if_neg hn]
        simp
theorem remK_all {f : Gp} {l : List Gp} (h : l.Pairwise ltP) : (if (remK f l l.length).2 = true then (remK f l l.length).1 else (remK f l l.length).1 ++ [f]) = insF f l := by
  have h1 := rem_all f l [] h
  unfold remK
  rw [List.take_length]
  simpa using h1
theorem remK_len (f : Gp) (l : List Gp) : ∀ k, k ≤ l.length → (remK f l k).1.length ≤ k + (if (remK f l k).2 = true then 1 else 0)
  | 0, _ => by simp [remK]
  | k + 1, hk => by
    have ih := remK_len f l k (by omega)
    rw [remK_succ f l (by omega)]
    generalize l[k] = x
    unfold remS
    cases hb : (remK f l k).2 <;> cases hl : lePB f x <;> rw [hb] at ih <;> by_cases hx : x = f <;> simp [hx] at ih ⊢ <;> omega
theorem remK_len2 (f : Gp) (l : List Gp) {k : Nat} (hk : k ≤ l.length) : (remK f l k).1.length ≤ k + 1 := by
  have h := remK_len f l k hk
  split at h <;> omega
end Go.Proofs.Ytjphckfbbiehdaa
