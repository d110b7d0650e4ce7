/- The reference's Renumber. A machine over a memory without end: what it has in memory; its registers; a value's place in a row. A machine over a memory without end: a field becomes a value; a new object; a register becomes a value. -/
import Derived.Test.YtjphckfbbiehdaaGIdealPlays3
import Derived.Test.YtjphckfbbiehdaaGIdealPlays2
import Derived.Deep.RegionHeld3
set_option linter.unusedSimpArgs false
set_option linter.unusedVariables false
namespace Go.Proofs.Ytjphckfbbiehdaa
open Go.RowKit

def renumF (fss : List (List Val)) (l : List Int) : List (List Val) := l.map fun x => (fieldsI fss x).map (turnL l)
theorem renumF_take (fss : List (List Val)) (l : List Int) (k : Nat) (h : k < l.length) : (renumF fss l).take (k + 1) = (renumF fss l).take k ++ [(fieldsI fss l[k]).map (turnL l)] := by
  have h2 : k < (renumF fss l).length := by unfold renumF; rw [List.length_map]; exact h
  rw [List.take_succ_eq_append_getElem h2]
  simp [renumF]
theorem obs_snoc_ (l : List Ob) (o : Ob) : (l ++ [o]).map Ob.val = l.map Ob.val ++ [Value.slice o.A o.n o.c] := by simp [Ob.val]

set_option maxRecDepth 100000 in
set_option maxHeartbeats 16000000 in
theorem renumber_any (w : World) (v : Value) (Al : Option Addr) (nl cl : Nat) (fss : List (List Val)) (roots : List Val) (l : List Int) (h : GraphRd w (fun _ => True) v fss roots) (hl : Rd w (fun _ => True) 1 Al nl (ints l)) (hlr : ∀ x ∈ l, 0 ≤ x ∧ x < (fss.length : Int)) (hn : fss.length ≤ 1000) (hnl : nl ≤ 1000) (hr : roots.length ≤ 1000) (hf : ∀ fs ∈ fss, fs.length ≤ 1000) :
    Calls Try.prog 176 #[v, .slice Al nl cl] w fun e w' => ∃ v', e = .returned v' ∧ Below w.heap.size w w' ∧ GraphRd w' (fun g => w.heap.size ≤ g) v' (renumF fss l) (roots.map (turnL l)) := by
  obtain ⟨AO, nO, cO, AR, nR, cR, obs, rfl, hO, h3, hR⟩ := h.ex
  have HRL := hide (show roots.length = nR by have := hR.1; rw [vals_length] at this; omega)
  have HLL := hide (show l.length = nl by have := hl.1; simpa using this)
  have HOL := hide hO.len
  have hlen : fss.length = nO := by rw [← h3, List.length_map]; exact hO.len
  rw [hlen] at hlr hn
  have HF := hide hf
  have H3 := hide h3
  have HLR := hide hlr
  have hnR : nR ≤ 1000 := by have := HRL.out; omega
  have hS0 := ((Sep.nil No w).blkAt 27 #[.slice AO nO cO, .slice AR nR cR] rfl).blkAt 27 #[.slice none 0 0, .slice none 0 0] (g := w.heap.size + 1) (by simp)
  obtain ⟨a1, a2, a3, a4⟩ := hS0.rules 0 (g := w.heap.size) (t := 27) rfl
  have HS0 := hide hS0
  have C1 := hide (turned_any _ AR Al nR cR nl cl roots l hnR hnl (hR.below hS0.below_) (hl.below hS0.below_))
  clear hlr hf h3 hlen hr h hS0
  go_enter Try.func176, Try.ntmps176
  go_wp2_with fail
  refine C1.out.mono ?_
  rintro e w3 ⟨Ar, cr, rfl, hP⟩
  have hS5 := ((HS0.out.snocNew hP.below_ _ (hP.get 0 rfl) (fun g hg => (hP.lo 0 rfl g hg).resolve_left (fun h => h))).blkAt 27 #[.slice none 0 0, .slice Ar nR cr] rfl).nilRow0 119 1
  have HS5 := hide hS5
  clear a1 a2 a3 a4 hS5 HS0 hP C1
  go_wp2_with fail
  go_loopw [15] (fun i wr => ∃ (k : Nat) (A' : Option Addr) (c' : Nat) (obs' : List Ob), k ≤ nl ∧ i = .int .i64 k ∧ Hid (obs'.map Ob.fields = (renumF fss l).take k) ∧
    Sep No w wr (rowI 119 1 A' k c' (obs'.map Ob.val) :: blkI w.heap.size 27 #[.slice AO nO cO, .slice AR nR cR] :: blkI (w.heap.size + 1) 27 #[.slice none 0 0, .slice none 0 0] :: rowI 107 2 Ar nR cr (vals (roots.map (turnL l))) :: blkI w3.heap.size 27 #[.slice A' k c', .slice Ar nR cr] :: obs'.map obI)) (fun i _ => nl - (intOf i).toNat)
  case atStart => exact ⟨0, none, 0, [], by omega, rfl, by simp [Hid], HS5.out⟩
  case round =>
    clear HS5
    obtain ⟨k, A', c', obs', hk, rfl, HO, hS⟩ := hrel
    by_cases hlt : k < nl
    · have hkl : k < l.length := by rw [HLL.out]; exact hlt
      obtain ⟨ad, hA, _, had, hc⟩ := (hl.below hS.below_).at_ hlt
      have e0 := hc (.int .i64 l[k]) (by simp [ints, List.getElem?_eq_getElem hkl])
      obtain ⟨r1, r2⟩ := HLR.out _ (List.getElem_mem hkl)
      have HT := hide (renumF_take fss l k hkl)
      obtain ⟨x, hx⟩ := int_nat r1
      rw [hx] at e0 r2 HT
      have hxn : x < nO := by omega
      have hxl : x < obs.length := by rw [HOL.out]; exact hxn
      obtain ⟨ad2, hA2, _, had2, hc2⟩ := (hO.below hS.below_).row.at_ hxn
      have e1 := hc2 obs[x].val (by simp [List.getElem?_eq_getElem hxl])
      have hEach := hO.each _ (List.getElem_mem hxl)
      have hFl := hO.flen (List.getElem_mem hxl)
      have hfi : fieldsI fss (x : Int) = obs[x].fields := by
        unfold fieldsI
        rw [← H3.out, List.getD_eq_getElem?_getD]
        simp [List.getElem?_eq_getElem hxl]
      have hfb := HF.out _ (show obs[x].fields ∈ fss by rw [← H3.out]; exact List.mem_map.2 ⟨_, List.getElem_mem hxl, rfl⟩)
      obtain ⟨o, ho⟩ : ∃ o, obs[x] = o := ⟨_, rfl⟩
      rw [hfi] at HT
      rw [ho] at e1 hEach hFl hfb HT
      unfold Ob.val at e1
      rw [hFl] at hfb
      have C := hide (fun w' (hb : Below w.heap.size w w') => turned_any w' o.A Al o.n o.c nl cl o.fields l hfb hnl (hEach.below hb) (hl.below hb))
      obtain ⟨i1, i2, i3, i4⟩ := hS.rules 1 (g := w.heap.size) (t := 27) rfl
      obtain ⟨j1, j2, j3, j4⟩ := hS.rules 4 (g := w3.heap.size) (t := 27) rfl
      have i5 : wr.cell? ⟨w.heap.size, 0, none⟩ = some (.slice AO nO cO) := by rw [i1]; rfl
      have j5 : wr.cell? ⟨w3.heap.size, 0, none⟩ = some (.slice A' k c') := by rw [j1]; rfl
      have i0 : (0 : Int) ≤ x := by omega
      subst hA hA2
      have HS := hide hS
      clear hc hc2 r1 r2 hx hfi hFl hfb hEach ho hS i1 j1 i4 j4 had2
      go_wp2_with fail
      clear e0
      go_region_law (first
        | (refine step_app1 (cs := #[.slice A5 o.n c5]) rfl (.tmp 20) (.tmp 30) 24 rfl (F := No) (W := w) sObj (items := _ :: _ :: _ :: _ :: _ :: _) hS5 0 (n := k) rfl rfl rfl (by simp) rfl rfl (by omega) ?_
           intro A7 c7 w7 hS7 hC7
           obtain ⟨z1, z2, z3, z4⟩ := hS7.rules 4 (g := w3.heap.size) (t := 27) rfl
           (have z5 : w7.cell? ⟨w3.heap.size, 0, none⟩ = some (.slice A' k c') := by rw [z1]; rfl)
           clear z1 z4 hC7)
        | (try go_simp
           go_at_call 206
           refine (C.out wr.drew HS.out.drew.below_).mono ?_
           rintro e w4 ⟨A5, c5, rfl, hP5⟩
           have hS5 := HS.out.drew.snocNew hP5.below_ _ (hP5.get 0 rfl) (fun g hg => (hP5.lo 0 rfl g hg).resolve_left (fun h => h))
           obtain ⟨x1, x2, x3, x4⟩ := hS5.rules 4 (g := w3.heap.size) (t := 27) rfl
           (have x5 : w4.cell? ⟨w3.heap.size, 0, none⟩ = some (.slice A' k c') := by rw [x1]; rfl)
           clear x1 x4))
      all_goals
        go_wp2_with fail
        go_roundw
        case rel =>
          refine ⟨k + 1, A7, c7, obs' ++ [⟨A5, o.n, c5, o.fields.map (turnL l)⟩], by omega, by go_num, ?_, ?_⟩
          · show _ = _
            rw [HT.out, ← HO.out]
            simp
          · rw [obs_snoc_, List.map_append]
            exact hS7.set_ 4 (g := w3.heap.size) (t := 27) rfl 0 (.slice A7 (k + 1) c7)
        case measure => simp [intOf]; omega
    · obtain rfl : k = nl := by omega
      have hO2 : obs'.map Ob.fields = renumF fss l := by
        rw [HO.out]; exact List.take_of_length_le (by unfold renumF; rw [List.length_map, HLL.out]; omega)
      have HO2 := hide hO2
      obtain ⟨j1, j2, j3, j4⟩ := hS.rules 4 (g := w3.heap.size) (t := 27) rfl
      obtain ⟨y1, y2, y3, y4⟩ := hS.rules 2 (g := w.heap.size + 1) (t := 27) rfl
      have HS := hide hS
      clear hO2 hS HO
      go_wp2_with fail
      have hF := (HS.out.set_ 2 (g := w.heap.size + 1) (t := 27) rfl 0 (.slice A' k c')).set_ 2 (g := w.heap.size + 1) (t := 27) rfl 1 (.slice Ar nR cr)
      refine bodyPost_ret (v := .agg #[.slice A' k c', .slice Ar nR cr]) (by simp [results, Try.results176, go_sem, y1]) rfl ⟨_, rfl, hF.below_, ?_⟩
      refine ⟨_, _, _, _, _, _, obs', rfl, obs_read hF (fun o ho => ?_) 0 rfl, HO2.out, hF.rd 3 rfl⟩
      simp only [List.set_cons_succ, List.set_cons_zero, List.mem_cons, List.mem_map]
      exact .inr (.inr (.inr (.inr (.inr ⟨o, ho, rfl⟩))))
end Go.Proofs.Ytjphckfbbiehdaa

namespace Go.Proofs.Ytjphckfbbiehdaa
open Go.RowKit

/-- An object behind a pointer. -/
structure Po where
  B : Nat
  o : Ob
def poI (p : Po) : Item := allI [blkI p.B 119 #[.slice p.o.A p.o.n p.o.c], obI p.o]
def mcCells (regs : List Val) (f : Value) : Array Value := (vals regs ++ [f]).toArray
/-- What a machine with a memory without end has in hand. -/
structure Idl where
  As : Option Addr
  c : Nat
  ps : List Po
  regs : List Val
abbrev idF (Be : Nat) : Value := .iface 183 (.pointer (some ⟨Be, 0, none⟩))
def idL (Bm Be : Nat) (s : Idl) : List Item :=
  blkI Bm 113 (mcCells s.regs (idF Be)) :: blkI Be 185 #[.slice s.As s.ps.length s.c] :: rowI 170 1 s.As s.ps.length s.c (s.ps.map fun p => .pointer (some ⟨p.B, 0, none⟩)) :: s.ps.map poI
def idI (Bm Be : Nat) (s : Idl) : Item := allI (idL Bm Be s)

theorem vals_app (a b : List Val) : vals (a ++ b) = vals a ++ vals b := by simp [vals]
theorem vals_set2 (l : List Val) (j : Nat) (b : Bool) (m : Int) : ((vals l).set (j * 2) (.bool b)).set (j * 2 + 1) (.int .i64 m) = vals (l.set j (b, m)) := by
  unfold vals
  induction l generalizing j with
  | nil => rfl
  | cons a l ih =>
    cases j with
    | zero => rfl
    | succ j =>
      rw [List.flatMap_cons, show (j + 1) * 2 = j * 2 + 1 + 1 from by omega, show j * 2 + 1 + 1 + 1 = (j * 2 + 1) + 1 + 1 from by omega]
      simp only [List.cons_append, List.nil_append, List.set_cons_succ, List.flatMap_cons]
      rw [ih]
theorem mc_reg {regs : List Val} {f : Value} {r : Nat} (h : r < regs.length) : (mcCells regs f)[r * 2]? = some (.bool regs[r].1) ∧ (mcCells regs f)[r * 2 + 1]? = some (.int .i64 regs[r].2) := by
  obtain ⟨v0, v1⟩ := vals_at regs r h
  have hl := vals_length regs
  unfold mcCells
  simp only [List.getElem?_toArray]
  refine ⟨(List.getElem?_append_left (by omega)).trans v0, (List.getElem?_append_left (by omega)).trans v1⟩
theorem mc_if {regs : List Val} {f : Value} (h : regs.length = 8) : (mcCells regs f)[16]? = some f := by
  have hl := vals_length regs
  unfold mcCells
  simp only [List.getElem?_toArray]
  rw [List.getElem?_append_right (by omega)]
  simp [hl, h]
theorem mc_set {regs : List Val} {f : Value} {r : Nat} (h : r < regs.length) (v : Val) : ((mcCells regs f).setIfInBounds (r * 2) (.bool v.1)).setIfInBounds (r * 2 + 1) (.int .i64 v.2) = mcCells (regs.set r v) f := by
  have hl := vals_length regs
  unfold mcCells
  rw [List.setIfInBounds_toArray, List.setIfInBounds_toArray, List.set_append_left _ _ (by omega), List.set_append_left _ _ (by rw [List.length_set]; omega), vals_set2]

set_option maxHeartbeats 400000 in
theorem hold_any (w : World) (p : Value) (r : Int) (v : Val) : Calls Try.prog 272 #[p, .int .i64 r, .agg #[.bool v.1, .int .i64 v.2]] w fun e w' => (∃ u, e = .returned u) ∧ Below w.heap.size w w' := by
  go_enter Try.func272, Try.ntmps272
  go_wp2_with fail
  go_end0
  exact ⟨⟨_, rfl⟩, (Below.refl _ w).alloc (Nat.le_refl _) _⟩

theorem meth_hold (x : Value) (w : World) : (method 455 183 x "Hold").run Try.prog w = .ok (272, x) w := by kernel_rfl
theorem meth_new (Be : Nat) (w : World) : (method 455 183 (.pointer (some ⟨Be, 0, none⟩)) "New").run Try.prog w = .ok (268, .pointer (some ⟨Be, 0, none⟩)) w := by kernel_rfl
theorem recv_run (Be : Nat) (w : World) : (receiverAt 101 (.var ⟨Be, 0, none⟩) false none).run Try.prog w = ((loadVar 101 ⟨Be, 0, none⟩).run Try.prog w) := by kernel_rfl
theorem recv_load (Be : Nat) (w : World) : (loadVar 101 ⟨Be, 0, none⟩).run Try.prog w = ((load ⟨Be, 0, none⟩).run Try.prog w) := by kernel_rfl
theorem recv_cell (Be : Nat) (w : World) (v : Value) (h : w.cell? ⟨Be, 0, none⟩ = some v) : (receiverAt 101 (.var ⟨Be, 0, none⟩) false none).run Try.prog w = .ok v w := by
  rw [recv_run, recv_load]
  simp [go_sem, h]
theorem meth_len0 (Be : Nat) (w : World) : (method 455 183 (.pointer (some ⟨Be, 0, none⟩)) "Len").run Try.prog w = (Sem.run Try.prog (do let v ← receiverAt 101 (.var ⟨Be, 0, none⟩) false none; pure (264, v)) w) := by kernel_rfl
theorem meth_get0 (Be : Nat) (w : World) : (method 455 183 (.pointer (some ⟨Be, 0, none⟩)) "Get").run Try.prog w = (Sem.run Try.prog (do let v ← receiverAt 101 (.var ⟨Be, 0, none⟩) false none; pure (262, v)) w) := by kernel_rfl
theorem meth_put0 (Be : Nat) (w : World) : (method 455 183 (.pointer (some ⟨Be, 0, none⟩)) "Put").run Try.prog w = (Sem.run Try.prog (do let v ← receiverAt 101 (.var ⟨Be, 0, none⟩) false none; pure (266, v)) w) := by kernel_rfl
theorem meth_len (Be : Nat) (v : Value) (w : World) (h : w.cell? ⟨Be, 0, none⟩ = some v) : (method 455 183 (.pointer (some ⟨Be, 0, none⟩)) "Len").run Try.prog w = .ok (264, v) w := by
  rw [meth_len0, Sem.run_bind, recv_cell Be w v h]; rfl
theorem meth_get (Be : Nat) (v : Value) (w : World) (h : w.cell? ⟨Be, 0, none⟩ = some v) : (method 455 183 (.pointer (some ⟨Be, 0, none⟩)) "Get").run Try.prog w = .ok (262, v) w := by
  rw [meth_get0, Sem.run_bind, recv_cell Be w v h]; rfl
theorem meth_put (Be : Nat) (v : Value) (w : World) (h : w.cell? ⟨Be, 0, none⟩ = some v) : (method 455 183 (.pointer (some ⟨Be, 0, none⟩)) "Put").run Try.prog w = .ok (266, v) w := by
  rw [meth_put0, Sem.run_bind, recv_cell Be w v h]; rfl

theorem mem_poI {Bm Be : Nat} {s : Idl} {p : Po} (hp : p ∈ s.ps) : poI p ∈ idL Bm Be s := by
  unfold idL
  simp only [List.mem_cons, List.mem_map]
  exact .inr (.inr (.inr ⟨p, hp, rfl⟩))
theorem Idl.fields_len {Bm Be : Nat} {s : Idl} {F : Nat → Prop} {W w : World} (h : Sep F W w (idL Bm Be s)) {p : Po} (hp : p ∈ s.ps) : p.o.fields.length = p.o.n := by
  have h1 := (h.all (poI p) (mem_poI hp)).1 (obI p.o) (by simp)
  have h2 : (vals p.o.fields).length = p.o.n * 2 := (show w.ownsRow 0 107 2 (.slice p.o.A p.o.n p.o.c) p.o.n (vals p.o.fields) from h1).1
  rw [vals_length] at h2; omega
/-- An object behind its pointer. -/
theorem po_at {Bm Be : Nat} {s : Idl} {F : Nat → Prop} {W w : World} {pre : List Item} (h : Sep F W w (pre ++ idL Bm Be s)) {i : Nat} (hi : i < s.ps.length) :
    ∃ (ad : Addr), s.As = some ad ∧ ad.block < w.heap.size ∧ w.cell? (ad.add i) = some (.pointer (some ⟨s.ps[i].B, 0, none⟩)) ∧ w.cell? ⟨s.ps[i].B, 0, none⟩ = some (.slice s.ps[i].o.A s.ps[i].o.n s.ps[i].o.c) ∧ (obI s.ps[i].o).P w := by
  have hrow : (rowI 170 1 s.As s.ps.length s.c (s.ps.map fun p => .pointer (some ⟨p.B, 0, none⟩))).P w := h.all _ (by unfold idL; simp)
  have hp := h.all (poI s.ps[i]) (List.mem_append_right _ (mem_poI (List.getElem_mem hi)))
  obtain ⟨ad, hA, _, had, hc⟩ := (Rd.of_own (D := fun _ => True) (show w.ownsRow 0 170 1 (.slice s.As s.ps.length s.c) s.ps.length _ from hrow) (fun _ _ => trivial)).at_ hi
  have hb : (blkI s.ps[i].B 119 #[.slice s.ps[i].o.A s.ps[i].o.n s.ps[i].o.c]).P w := hp.1 _ (by simp)
  refine ⟨ad, hA, had, hc _ (by simp [List.getElem?_eq_getElem hi]), ((show Blk w _ _ _ from hb).rules.1 0).trans rfl, hp.1 _ (by simp)⟩

set_option maxRecDepth 100000 in
set_option maxHeartbeats 4000000 in
theorem len_any {Bm Be : Nat} {s : Idl} {F : Nat → Prop} {W w : World} {pre : List Item} (h : Sep F W w (pre ++ idL Bm Be s)) (hn : s.ps.length ≤ 1000) {i : Nat} (hi : i < s.ps.length) :
    Calls Try.prog 264 #[.slice s.As s.ps.length s.c, .int .i64 i] w fun e w' => e = .returned (.int .i64 s.ps[i].o.n) ∧ w' = w := by
  obtain ⟨ad, hA, had, e0, e1, _⟩ := po_at h hi
  obtain ⟨p, hp⟩ : ∃ p, s.ps[i] = p := ⟨_, rfl⟩
  obtain ⟨n, hn2⟩ : ∃ n, s.ps.length = n := ⟨_, rfl⟩
  rw [hp] at e0 e1 ⊢
  rw [hn2] at hi hn ⊢
  rw [hA]
  clear hp hn2 h
  go_enter Try.func264, Try.ntmps264
  go_wp2_with fail
  go_ret
  exact ⟨rfl, rfl⟩
theorem hraddr0 (g j : Nat) : (⟨g, 0, none⟩ : Addr).add j = ⟨g, j, none⟩ := by
  unfold Addr.add; split <;> simp_all
theorem hown_addr {w : World} {b e size n c : Nat} {A : Option Addr} {xs : List Value} (h : w.ownsRow b e size (.slice A n c) n xs) (hn : 0 < n) : ∃ g, A = some ⟨g, 0, none⟩ := by
  rcases h.2 with ⟨hv, rfl⟩ | ⟨g, cap, cur, hv, _⟩
  · injection hv with _ h2 _; omega
  · exact ⟨g, by injection hv⟩
theorem hrow_val {w : World} {n c g : Nat} {l : List Val} (h : (rowI 107 2 (some ⟨g, 0, none⟩) n c (vals l)).P w) (j : Nat) (hj : j < n) (hjl : j < l.length) :
    w.cell? ⟨g, j * 2, none⟩ = some (.bool l[j].1) ∧ w.cell? ⟨g, j * 2 + 1, none⟩ = some (.int .i64 l[j].2) ∧ w.frozen? ⟨g, j * 2, none⟩ = false ∧ w.frozen? ⟨g, j * 2 + 1, none⟩ = false := by
  have ho : w.ownsRow 0 107 2 (.slice (some ⟨g, 0, none⟩) n c) n (vals l) := h
  obtain ⟨fd, hA, _, _, hc3, hd3⟩ := (Rd.of_own (D := fun _ => True) ho (fun _ _ => trivial)).atN hj
  obtain rfl : (⟨g, 0, none⟩ : Addr) = fd := by injection hA
  obtain ⟨v0, v1⟩ := vals_at l j hjl
  have e2 := hc3 _ v0
  have e3 := hd3 0 _ v1
  rw [hraddr0] at e2 e3
  exact ⟨e2, e3, ho.frozenAt _, ho.frozenAt _⟩
set_option maxRecDepth 100000 in
set_option maxHeartbeats 4000000 in
theorem get_any {Bm Be : Nat} {s : Idl} {F : Nat → Prop} {W w : World} {pre : List Item} (h : Sep F W w (pre ++ idL Bm Be s)) (hn : s.ps.length ≤ 1000) {i k : Nat} (hi : i < s.ps.length) (hk : k < s.ps[i].o.fields.length) (hkn : k < s.ps[i].o.n) (h4 : s.ps[i].o.n ≤ 4) :
    Calls Try.prog 262 #[.slice s.As s.ps.length s.c, .int .i64 i, .int .i64 k] w fun e w' => e = .returned (.agg #[.bool s.ps[i].o.fields[k].1, .int .i64 s.ps[i].o.fields[k].2]) ∧ Below w.heap.size w w' := by
  have hS1 := h.alloc (.cells #[.bool false, .int .i64 0] 107)
  have hB0 : Below w.heap.size w (w.alloc (.cells #[.bool false, .int .i64 0] 107)) := (Below.refl _ w).alloc (Nat.le_refl _) _
  obtain ⟨ad, hA, had, e0, e1, hob⟩ := po_at hS1 hi
  obtain ⟨g, hA2⟩ := hown_addr (show (w.alloc (.cells #[.bool false, .int .i64 0] 107)).ownsRow 0 107 2 (.slice s.ps[i].o.A s.ps[i].o.n s.ps[i].o.c) s.ps[i].o.n (vals s.ps[i].o.fields) from hob) (by omega)
  have hob2 : (rowI 107 2 (some ⟨g, 0, none⟩) s.ps[i].o.n s.ps[i].o.c (vals s.ps[i].o.fields)).P (w.alloc (.cells #[.bool false, .int .i64 0] 107)) := by rw [← hA2]; exact hob
  obtain ⟨e2, e3, _, _⟩ := hrow_val hob2 k hkn hk
  obtain ⟨v, hv⟩ : ∃ v, s.ps[i].o.fields[k] = v := ⟨_, rfl⟩
  rw [hv] at e2 e3 ⊢
  rw [hA2] at e1
  obtain ⟨B, hB⟩ : ∃ p, s.ps[i].B = p := ⟨_, rfl⟩
  obtain ⟨m, hm⟩ : ∃ p, s.ps[i].o.n = p := ⟨_, rfl⟩
  obtain ⟨c, hc⟩ : ∃ p, s.ps[i].o.c = p := ⟨_, rfl⟩
  obtain ⟨n, hn2⟩ : ∃ n, s.ps.length = n := ⟨_, rfl⟩
  rw [hB] at e0 e1
  rw [hm] at e1 hkn h4
  rw [hc] at e1
  rw [hn2] at hi hn ⊢
  rw [hA]
  have HB0 := hide hB0
  clear hv hB hm hc hn2 hob hob2 hk h hS1 hB0
  obtain ⟨bv, mv⟩ := v
  dsimp only at e2 e3 ⊢
  go_enter Try.func262, Try.ntmps262
  go_wp2_with fail
  refine bodyPost_ret (v := .agg #[.bool bv, .int .i64 mv]) (by simp [results, Try.results262, go_sem]) rfl ⟨rfl, (Below.refl _ w).alloc (Nat.le_refl _) _⟩
end Go.Proofs.Ytjphckfbbiehdaa

namespace Go.Proofs.Ytjphckfbbiehdaa
open Go.RowKit

def Po.put (p : Po) (k : Nat) (v : Val) : Po := ⟨p.B, ⟨p.o.A, p.o.n, p.o.c, p.o.fields.set k v⟩⟩
def Idl.put (s : Idl) (i k : Nat) (v : Val) (h : i < s.ps.length) : Idl := { s with ps := s.ps.set i (s.ps[i].put k v) }
theorem ptrs_put (l : List Po) (i k : Nat) (v : Val) (h : i < l.length) : ((l.set i (l[i].put k v)).map fun p => Value.pointer (some ⟨p.B, 0, none⟩)) = l.map fun p => Value.pointer (some ⟨p.B, 0, none⟩) := by
  rw [List.map_set]
  refine List.ext_getElem (by simp) fun j h1 h2 => ?_
  rw [List.getElem_set]
  split
  · rename_i e; subst e; simp [Po.put]
  · rfl

set_option maxRecDepth 100000 in
set_option maxHeartbeats 8000000 in
theorem put_any {Bm Be : Nat} {s : Idl} {w : World} (hP : (idI Bm Be s).P w) (hn : s.ps.length ≤ 1000) {i k : Nat} (v : Val) (hi : i < s.ps.length) (hk : k < s.ps[i].o.fields.length) (hkn : k < s.ps[i].o.n) (h4 : s.ps[i].o.n ≤ 4) :
    Calls Try.prog 266 #[.slice s.As s.ps.length s.c, .int .i64 i, .int .i64 k, .agg #[.bool v.1, .int .i64 v.2]] w fun e w' => (∃ u, e = .returned u) ∧ Sep (idI Bm Be s).fp w w' [idI Bm Be (s.put i k v hi)] := by
  obtain ⟨F, hF⟩ : ∃ F, (idI Bm Be s).fp = F := ⟨_, rfl⟩
  have hS0 : Sep (idI Bm Be s).fp w (w.alloc (.cells #[.bool v.1, .int .i64 v.2] 107)) ([blkI w.heap.size 107 #[.bool v.1, .int .i64 v.2]] ++ idL Bm Be s) := ((Sep.start hP).flat.blkAt 107 #[.bool v.1, .int .i64 v.2] (g := w.heap.size) rfl).perm List.perm_append_comm
  rw [hF] at hS0 ⊢
  obtain ⟨ad, hA, had, e0, e1, hob⟩ := po_at hS0 hi
  have hS00 : Sep F w (w.alloc (.cells #[.bool v.1, .int .i64 v.2] 107)) ([blkI w.heap.size 107 #[.bool v.1, .int .i64 v.2], blkI Bm 113 (mcCells s.regs (idF Be)), blkI Be 185 #[.slice s.As s.ps.length s.c], rowI 170 1 s.As s.ps.length s.c (s.ps.map fun p => .pointer (some ⟨p.B, 0, none⟩))] ++ s.ps.map poI) := hS0
  have hS1 := hS00.focus (j := i) (t := s.ps[i]) (List.getElem?_eq_getElem hi)
  have hS2 := hS1.split (l := [blkI s.ps[i].B 119 #[.slice s.ps[i].o.A s.ps[i].o.n s.ps[i].o.c], obI s.ps[i].o])
  obtain ⟨ga, hga⟩ := hown_addr (show (w.alloc (.cells #[.bool v.1, .int .i64 v.2] 107)).ownsRow 0 170 1 (.slice s.As s.ps.length s.c) s.ps.length _ from hS2.get 5 rfl) (by omega)
  obtain ⟨g2, hg2⟩ := hown_addr (show (w.alloc (.cells #[.bool v.1, .int .i64 v.2] 107)).ownsRow 0 107 2 (.slice s.ps[i].o.A s.ps[i].o.n s.ps[i].o.c) s.ps[i].o.n (vals s.ps[i].o.fields) from hob) (by omega)
  have hob2 : (rowI 107 2 (some ⟨g2, 0, none⟩) s.ps[i].o.n s.ps[i].o.c (vals s.ps[i].o.fields)).P (w.alloc (.cells #[.bool v.1, .int .i64 v.2] 107)) := by rw [← hg2]; exact hob
  obtain ⟨f1, f2, f3, f4⟩ := hrow_val hob2 k hkn hk
  have hfp2 : (obI s.ps[i].o).fp g2 := by show (Value.slice s.ps[i].o.A s.ps[i].o.n s.ps[i].o.c).ownBlock = some g2; rw [hg2]; rfl
  have hne1 : g2 ≠ s.ps[i].B := fun e => hS2.other (a := 1) (b := 0) rfl rfl (by omega) g2 hfp2 e
  have hne2 : g2 ≠ w.heap.size := fun e => hS2.other (a := 1) (b := 2) rfl rfl (by omega) g2 hfp2 e
  have hne3 : g2 ≠ ga := fun e => hS2.other (a := 1) (b := 5) rfl rfl (by omega) g2 hfp2 (by show (Value.slice s.As s.ps.length s.c).ownBlock = some g2; rw [hga, e]; rfl)
  have hsz : g2 < (w.alloc (.cells #[.bool v.1, .int .i64 v.2] 107)).heap.size := hS2.hi 1 rfl g2 hfp2
  obtain ⟨x1, x2, _, _⟩ := hS2.rules 2 (g := w.heap.size) (t := 107) rfl
  have x5 := (x1 0).trans (show _ = some (.bool v.1) from rfl)
  have x6 := (x1 1).trans (show _ = some (.int .i64 v.2) from rfl)
  have HS2 := hide hS2
  have HPT := hide (ptrs_put s.ps i k v hi)
  have HFIN := hide (fun (X : World) (h : Sep F w X (poI (s.ps[i].put k v) :: ([blkI w.heap.size 107 #[.bool v.1, .int .i64 v.2], blkI Bm 113 (mcCells s.regs (idF Be)), blkI Be 185 #[.slice s.As s.ps.length s.c], rowI 170 1 s.As s.ps.length s.c (s.ps.map fun p => .pointer (some ⟨p.B, 0, none⟩))] ++ (s.ps.eraseIdx i).map poI))) =>
    (show Sep F w X [idI Bm Be (s.put i k v hi)] from by
      have h1 := (h.unfocus (l := s.ps) (j := i) hi).sub (l := blkI Bm 113 (mcCells s.regs (idF Be)) :: blkI Be 185 #[.slice s.As s.ps.length s.c] :: rowI 170 1 s.As s.ps.length s.c (s.ps.map fun p => .pointer (some ⟨p.B, 0, none⟩)) :: (s.ps.set i (s.ps[i].put k v)).map poI) (.cons _ (List.Sublist.refl _))
      refine Sep.fold (l := idL Bm Be (s.put i k v hi)) ?_
      unfold idL Idl.put
      dsimp only
      rw [ptrs_put s.ps i k v hi, List.length_set]
      exact h1))
  have HST := hide (fun (X : World) (h : Sep F w X (blkI s.ps[i].B 119 #[.slice s.ps[i].o.A s.ps[i].o.n s.ps[i].o.c] :: obI s.ps[i].o :: ([blkI w.heap.size 107 #[.bool v.1, .int .i64 v.2], blkI Bm 113 (mcCells s.regs (idF Be)), blkI Be 185 #[.slice s.As s.ps.length s.c], rowI 170 1 s.As s.ps.length s.c (s.ps.map fun p => .pointer (some ⟨p.B, 0, none⟩))] ++ (s.ps.eraseIdx i).map poI))) =>
    (show Sep F w ((X.setCell ⟨g2, k * 2, none⟩ (.bool v.1)).setCell ⟨g2, k * 2 + 1, none⟩ (.int .i64 v.2)) (poI (s.ps[i].put k v) :: ([blkI w.heap.size 107 #[.bool v.1, .int .i64 v.2], blkI Bm 113 (mcCells s.regs (idF Be)), blkI Be 185 #[.slice s.As s.ps.length s.c], rowI 170 1 s.As s.ps.length s.c (s.ps.map fun p => .pointer (some ⟨p.B, 0, none⟩))] ++ (s.ps.eraseIdx i).map poI)) from by
      have he : obI s.ps[i].o = rowI 107 2 (some ⟨g2, 0, none⟩) s.ps[i].o.n s.ps[i].o.c (vals s.ps[i].o.fields) := by unfold obI; rw [hg2]
      rw [he] at h
      have h2 := (h.store 1 (g := g2) rfl (k * 2) (.bool v.1)).store 1 (g := g2) rfl (k * 2 + 1) (.int .i64 v.2)
      simp only [List.set_cons_succ, List.set_cons_zero, vals_set2] at h2
      refine Sep.join (l := [blkI s.ps[i].B 119 #[.slice s.ps[i].o.A s.ps[i].o.n s.ps[i].o.c], obI (s.ps[i].put k v).o]) ?_
      have he2 : obI (s.ps[i].put k v).o = rowI 107 2 (some ⟨g2, 0, none⟩) s.ps[i].o.n s.ps[i].o.c (vals (s.ps[i].o.fields.set k (v.1, v.2))) := by unfold obI Po.put; dsimp only; rw [hg2]
      rw [he2]
      exact h2))
  obtain ⟨B, hB⟩ : ∃ p, s.ps[i].B = p := ⟨_, rfl⟩
  obtain ⟨m, hm⟩ : ∃ p, s.ps[i].o.n = p := ⟨_, rfl⟩
  obtain ⟨c, hc⟩ : ∃ p, s.ps[i].o.c = p := ⟨_, rfl⟩
  obtain ⟨n, hn2⟩ : ∃ n, s.ps.length = n := ⟨_, rfl⟩
  obtain ⟨bv, mv⟩ := v
  obtain rfl : ad = ⟨ga, 0, none⟩ := by rw [hga] at hA; injection hA with hA; exact hA.symm
  rw [hraddr0] at e0
  rw [hB] at e0 e1 hne1
  rw [hg2, hm, hc] at e1
  rw [hm] at hkn h4
  rw [hA]
  have hin : i < n := by rw [← hn2]; exact hi
  rw [hn2] at hn ⊢
  dsimp only at x5 x6 HS2 HFIN HST f1 f2 ⊢
  obtain ⟨W, hW⟩ : ∃ W, w.alloc (.cells #[.bool bv, .int .i64 mv] 107) = W := ⟨_, rfl⟩
  rw [hW] at e0 e1 f1 f2 f3 f4 hsz x2 x5 x6 HS2
  obtain ⟨gb, hgb⟩ : ∃ g, w.heap.size = g := ⟨_, rfl⟩
  have HGB := hide hgb
  have HW := hide hW
  rw [hgb] at hne2 x2 x5 x6
  clear hS0 hS00 hS1 hS2 hob hob2 hP hB hm hc hn2 x1 hF hfp2 hgb hW hA hg2 hga
  go_enter Try.func266, Try.ntmps266
  go_wp2_with fail
  rw [HW.out]
  rw [HGB.out]
  have hne4 : ga ≠ g2 := fun e => hne3 e.symm
  have hne5 : B ≠ g2 := fun e => hne1 e.symm
  have hne6 : gb ≠ g2 := fun e => hne2 e.symm
  go_region_held3 (fun w' => w'.cell? ⟨ga, i, none⟩ = some (.pointer (some ⟨B, 0, none⟩)) ∧ w'.cell? ⟨B, 0, none⟩ = some (.slice (some ⟨g2, 0, none⟩) m c) ∧ w'.cell? ⟨gb, 0, none⟩ = some (.bool bv) ∧ w'.cell? ⟨gb, 1, none⟩ = some (.int .i64 mv)) (go_keep) (fail)
  all_goals
    go_end0
    exact ⟨⟨_, rfl⟩, HFIN.out _ (HST.out _ HS2.out.drew)⟩
end Go.Proofs.Ytjphckfbbiehdaa
