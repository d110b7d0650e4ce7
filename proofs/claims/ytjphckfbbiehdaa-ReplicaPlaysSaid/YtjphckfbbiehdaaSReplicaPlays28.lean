/- The rest of a row: a slice that begins somewhere in its block; what is laid behind it; what is taken off in front. A memory with colours: all white ones go. slices.Clone of a row of values. A memory without end, made from a graph's objects. A memory with colours: from its parts; what the methods do, as the plain deeds say. A memory with colours: work, sweep and what a machine does, as the plain deeds say. A memory with colours: small words for what is new. -/
import Derived.Deep.AppendSrc
import Derived.Test.YtjphckfbbiehdaaSReplicaPlays1
import Derived.Test.YtjphckfbbiehdaaSReplicaPlays20
import Derived.Test.YtjphckfbbiehdaaSReplicaPlays5
import Derived.Test.YtjphckfbbiehdaaSReplicaPlays22
import Derived.Test.YtjphckfbbiehdaaSReplicaPlays12
set_option linter.unusedSimpArgs false
set_option linter.unusedVariables false
namespace Go.Proofs.Ytjphckfbbiehdaa
open Go.RowKit
theorem suf_addr (g off j : Nat) : (⟨g, off, none⟩ : Addr).add j = ⟨g, off + j, none⟩ := by unfold Addr.add; split <;> simp_all
def sufI (e size : Nat) (A : Option Addr) (n c : Nat) (xs : List Value) : Item where
  fp g := (Value.slice A n c).ownBlock = some g
  P w := xs.length = n * size ∧ ((A = none ∧ n = 0 ∧ c = 0) ∨ ∃ g off cur, A = some ⟨g, off, none⟩ ∧ w.heap[g]? = some (.cells cur e (0, 0)) ∧ n ≤ c ∧ c ≤ maxLen ∧ off + c * size ≤ cur.size ∧ (cur.toList.drop off).take (n * size) = xs)
  dom w h k hk := by
    rcases h.2 with ⟨rfl, _⟩ | ⟨g, off, cur, rfl, hg, _⟩
    · cases hk
    · have : g = k := by simpa [Value.ownBlock] using hk
      subst this
      exact (Array.getElem?_eq_some_iff.1 hg).1
  loc w w' _ hk h := by
    refine ⟨h.1, ?_⟩
    rcases h.2 with h1 | ⟨g, off, cur, rfl, hg, h2⟩
    · exact .inl h1
    · exact .inr ⟨g, off, cur, rfl, (hk g rfl).trans hg, h2⟩
theorem suf_nil (w : World) (e size : Nat) : (sufI e size none 0 0 []).P w := ⟨by simp, .inl ⟨rfl, rfl, rfl⟩⟩
theorem suf_rd {w : World} {e size n c : Nat} {A : Option Addr} {xs : List Value} (h : (sufI e size A n c xs).P w) : Rd w (fun _ => True) size A n xs := by
  refine ⟨h.1, fun hn => ?_⟩
  rcases h.2 with ⟨_, h0, _⟩ | ⟨g, off, cur, rfl, hg, h2, h3, h4, h5⟩
  · omega
  · refine ⟨⟨g, off, none⟩, rfl, trivial, (Array.getElem?_eq_some_iff.1 hg).1, fun j u hu => ?_⟩
    rw [suf_addr, cell_of_row w g (off + j) cur e (0, 0) hg]
    rw [← h5, List.getElem?_take] at hu
    split at hu
    · rw [List.getElem?_drop] at hu
      simpa using hu
    · cases hu
theorem suf_le {w : World} {e size n c : Nat} {A : Option Addr} {xs : List Value} (h : (sufI e size A n c xs).P w) : n ≤ c := by
  rcases h.2 with ⟨_, h0, h1⟩ | ⟨g, off, cur, rfl, hg, h2, _⟩
  · omega
  · exact h2
/-- The first one is taken off. -/
theorem suf_tail {w : World} {e size n c : Nat} {A : Option Addr} {xs : List Value} (h : (sufI e size A (n + 1) c xs).P w) (hs : 0 < size) : (sufI e size (if c = 1 then A else A.map (·.add (1 * size))) n (c - 1) (xs.drop size)).P w := by
  have hl := h.1
  have hc := suf_le h
  rcases h.2 with ⟨_, h0, _⟩ | ⟨g, off, cur, rfl, hg, h2, h3, h4, h5⟩
  · omega
  · have e1 : (n + 1) * size = n * size + size := by rw [Nat.add_mul]; omega
    have e2 : c * size = (c - 1) * size + size := by
      have : c = (c - 1) + 1 := by omega
      rw [this, Nat.add_mul]; simp
    refine ⟨by rw [List.length_drop, hl]; omega, .inr ?_⟩
    by_cases h1 : c = 1
    · rw [if_pos h1]
      have hn : n = 0 := by omega
      subst hn
      refine ⟨g, off, cur, rfl, hg, by omega, by omega, by omega, ?_⟩
      have : (xs.drop size).length = 0 := by rw [List.length_drop, hl]; simp
      rw [List.eq_nil_of_length_eq_zero this]; simp
    · rw [if_neg h1]
      refine ⟨g, off + size, cur, by rw [Option.map_some, suf_addr, Nat.one_mul], hg, by omega, by omega, by omega, ?_⟩
      rw [← h5, ← List.drop_drop, List.drop_take, e1, Nat.add_sub_cancel]
theorem Sep.sufTail {F : Nat → Prop} {W w : World} {items : List Item} {e size n c : Nat} {A : Option Addr} {xs : List Value} (hS : Sep F W w items) (k : Nat) (hk : items[k]? = some (sufI e size A (n + 1) c xs)) (hs : 0 < size) : Sep F W w (items.set k (sufI e size (if c = 1 then A else A.map (·.add (1 * size))) n (c - 1) (xs.drop size))) :=
  hS.step k hk (Chg.refl _ _) _ (suf_tail (hS.get k hk) hs) (fun g hg => .inl (by
    have h1 : (Value.slice (if c = 1 then A else A.map (·.add (1 * size))) n (c - 1)).ownBlock = some g := hg
    show (Value.slice A (n + 1) c).ownBlock = some g
    rcases (hS.get k hk).2 with ⟨rfl, h0, _⟩ | ⟨g', off, cur, rfl, _⟩
    · omega
    · split at h1
      · exact h1
      · rw [Option.map_some, suf_addr] at h1; exact h1))
section
variable {P : Program}
theorem run_append_room_off (w : World) (t ty e : TypeId) (i : TypeInfo) (ht : P.underlying t = some (.slice e)) (hi : P.info? e = some i)
    (g off sLen sCap : Nat) (cur : Array Value) (hg : w.heap[g]? = some (.cells cur e (0, 0)))
    (a : Addr) (m c : Nat) (news : List Value) (hl : news.length = m * i.size) (hnews : ∀ j u, news[j]? = some u → w.cell? (a.add j) = some u) (h1 : ∀ u ∈ news, u.oneCell' = true)
    (hroom : sLen + m ≤ sCap) (hfit : off + sLen * i.size + news.length ≤ cur.size) :
    (Builtin.append_ #[t, t] ty #[.slice (some ⟨g, off, none⟩) sLen sCap, .slice (some a) m c]).run P w =
      .ok (.slice (some ⟨g, off, none⟩) (sLen + m) sCap) (w.setRow g (cur.toList.take (off + sLen * i.size) ++ news ++ cur.toList.drop (off + sLen * i.size + news.length)).toArray) := by
  have hf := run_firstCells_some (P := P) w i.size m a m c news hl hnews
  have hst := run_storeCells_at P g (off + sLen * i.size) e news 0 cur w hg (by simpa using hfit) h1
  simp only [Nat.add_zero] at hst
  simp [Builtin.append_, run_underlying ht, sizeOf, typeInfo, hi, Builtin.lenOf, hroom, hf, Addr.add_lit, hst]
theorem Sep.sufApp {F : Nat → Prop} {W w : World} {items : List Item} {e size n c bytes : Nat} {A : Option Addr} {xs : List Value} {t : Nat} (ty : TypeId) (T : SliceT P t e size bytes) (hS : Sep F W w items) (k : Nat) (hk : items[k]? = some (sufI e size A n c xs))
    {ad : Addr} {m c2 : Nat} {news : List Value} (hm : 0 < m) (hl : news.length = m * size) (hnews : ∀ j u, news[j]? = some u → w.cell? (ad.add j) = some u) (h1 : ∀ u ∈ news, u.oneCell' = true) (hb : (n + m) * bytes ≤ 140737488355328) :
    ∃ A' c' w', (Builtin.append_ #[t, t] ty #[.slice A n c, .slice (some ad) m c2]).run P w = .ok (.slice A' (n + m) c') w' ∧ Sep F W w' (items.set k (sufI e size A' (n + m) c' (xs ++ news))) ∧ Chg (sufI e size A n c xs).fp w w' := by
  obtain ⟨i, z, hi, hz, hs, hby, hzs⟩ := T.info
  subst hs
  subst hby
  have h63 : n + m ≤ maxLen := by
    have h2 : n + m ≤ (n + m) * i.bytes := Nat.le_mul_of_pos_right _ T.pos.2
    simp only [maxLen]; omega
  have hsmall : n + m ≤ 9223372036854775807 := by simp only [maxLen] at h63; omega
  have hP := hS.get k hk
  have hlen : (xs ++ news).length = (n + m) * i.size := by rw [List.length_append, hP.1, hl, Nat.add_mul]
  have grown : ∀ (old : Nat), (sufI e i.size (some ⟨w.heap.size, 0, none⟩) (n + m) (grownCap w (n + m) old e) (xs ++ news)).P (w.drew.alloc (.cells (xs.toArray ++ news.toArray ++ Builtin.zeroCells z.cells (grownCap w (n + m) old e - (n + m))) e)) := by
    intro old
    have hge := grownCap_ge w (n + m) old e
    have hcm : grownCap w (n + m) old e ≤ maxLen := grownCap_le_maxLen w (n + m) old e h63
    refine ⟨hlen, .inr ⟨w.heap.size, 0, _, rfl, heap_alloc_new w.drew _, hge, hcm, ?_, ?_⟩⟩
    · simp only [Array.size_append, List.size_toArray, size_zeroCells, hzs, hP.1, hl, ← Nat.add_mul]
      rw [show n + m + (grownCap w (n + m) old e - (n + m)) = grownCap w (n + m) old e by omega]; omega
    · simp only [Array.toList_append, List.append_assoc, List.drop_zero]
      rw [← List.append_assoc, ← hlen]
      exact List.take_left
  have hnew : ∀ (o : Obj) (A' : Option Addr) (c' : Nat), (sufI e i.size (some ⟨w.heap.size, 0, none⟩) (n + m) c' (xs ++ news)).P (w.drew.alloc o) → Sep F W (w.drew.alloc o) (items.set k (sufI e i.size (some ⟨w.heap.size, 0, none⟩) (n + m) c' (xs ++ news))) ∧ Chg (sufI e i.size A n c xs).fp w (w.drew.alloc o) := by
    intro o A' c' hp
    have hc : Chg (sufI e i.size A n c xs).fp w (w.drew.alloc o) := (Chg.refl _ w).drew.alloc o
    exact ⟨hS.step k hk hc _ hp (fun g hg => .inr (by
      have : w.heap.size = g := by simpa [sufI, Value.ownBlock] using hg
      omega)), hc⟩
  rcases hP.2 with ⟨rfl, rfl, rfl⟩ | ⟨g, off, cur, rfl, hg, h2, h3, h4, h5⟩
  · have hx : xs = [] := List.eq_nil_of_length_eq_zero (by simpa using hP.1)
    subst hx
    have hr := run_append_nil (P := P) w t ty e i z T.und hi hz ad m c2 news hl hnews (by omega) (by omega) (by have hb := hb; simp only [Nat.zero_add] at hb; omega)
    have hgr := grown 0
    simp only [Nat.zero_add, List.nil_append, Array.empty_append] at hgr hr hnew ⊢
    obtain ⟨n1, n2⟩ := hnew _ none _ hgr
    exact ⟨_, _, _, hr, n1, n2⟩
  · by_cases hroom : n + m ≤ c
    · have hmul : (n + m) * i.size ≤ c * i.size := Nat.mul_le_mul_right _ hroom
      rw [Nat.add_mul] at hmul
      have hfit : off + n * i.size + news.length ≤ cur.size := by rw [hl]; omega
      have hr := run_append_room_off (P := P) w t ty e i T.und hi g off n c cur hg ad m c2 news hl hnews h1 hroom hfit
      have hheap := setRow_heap w g cur (cur.toList.take (off + n * i.size) ++ news ++ cur.toList.drop (off + n * i.size + news.length)).toArray e (0, 0) hg
      have hgrb : w.grownBy (w.setRow g (cur.toList.take (off + n * i.size) ++ news ++ cur.toList.drop (off + n * i.size + news.length)).toArray) (some g) := ⟨rfl, rfl, rfl, by simp, fun k _ hk => setRow_other w g k _ (fun e => hk (by rw [e]))⟩
      have hc : Chg (sufI e i.size (some ⟨g, off, none⟩) n c xs).fp w (w.setRow g (cur.toList.take (off + n * i.size) ++ news ++ cur.toList.drop (off + n * i.size + news.length)).toArray) := (Chg.of_grown hgrb).mono (fun g' hx => .inl hx)
      refine ⟨_, _, _, hr, hS.step k hk hc _ ⟨hlen, .inr ⟨g, off, _, rfl, hheap, hroom, h3, ?_, ?_⟩⟩ (fun g' hg' => .inl hg'), hc⟩
      · simp only [List.size_toArray, List.length_append, List.length_take, List.length_drop, Array.length_toList]
        omega
      · have e1 : (cur.toList.take (off + n * i.size)).drop off = xs := by
          rw [List.drop_take, ← h5]
          congr 1
          omega
        have e2 : (cur.toList.take (off + n * i.size)).length = off + n * i.size := by rw [List.length_take, Array.length_toList]; omega
        show ((cur.toList.take (off + n * i.size) ++ news ++ cur.toList.drop (off + n * i.size + news.length)).drop off).take ((n + m) * i.size) = xs ++ news
        rw [List.append_assoc, List.drop_append_of_le_length (by omega), e1, ← hlen, ← List.append_assoc]
        exact List.take_left
    · have holds : ∀ j u, xs[j]? = some u → w.cell? ((⟨g, off, none⟩ : Addr).add j) = some u := fun j u hu => by
        obtain ⟨ad', e1, _, _, h6⟩ := (suf_rd hP).2 (by
          rcases Nat.eq_zero_or_pos n with h0 | h0
          · have : xs = [] := List.eq_nil_of_length_eq_zero (by rw [hP.1, h0]; simp)
            rw [this] at hu; cases hu
          · exact h0)
        obtain rfl : (⟨g, off, none⟩ : Addr) = ad' := by injection e1
        exact h6 j u hu
      have hr := run_append_grow (P := P) w t ty e i z T.und hi hz ⟨g, off, none⟩ n c xs hP.1 holds ad m c2 news hl hnews (by omega) (by omega) (growslice_fits (by omega) hb)
      obtain ⟨n1, n2⟩ := hnew _ none _ (grown c)
      exact ⟨_, _, _, hr, n1, n2⟩
theorem new_cells (w : World) (e : TypeId) (cs : Array Value) : ∀ j u, cs.toList[j]? = some u → (w.alloc (.cells cs e)).cell? ((⟨w.heap.size, 0, none⟩ : Addr).add j) = some u := fun j u hu => by
  rw [suf_addr, Nat.zero_add, (Blk.new w e cs).cell j]; simpa using hu
theorem wpList_suf1 {w : World} {ops : Array Oper} {rest : List Oper} {o : Oper} {a : Act} {Q : Exit → Act → World → Prop} (hgd : o.guard = none) (s x : Operand) (t : TypeId)
    (ho : o.op = .call { callee := .builtin .append, args := #[s, x], argTypes := #[t, t] })
    {F : Nat → Prop} {W : World} {items : List Item} {e size n c bytes : Nat} {A : Option Addr} {xs : List Value} (T : SliceT P t e size bytes) (hS : Sep F W w items) (k : Nat) (hk : items[k]? = some (sufI e size A n c xs)) (hs : a.eval s = .slice A n c)
    {cs : Array Value} {g : Nat} (hx : a.eval x = .slice (some ⟨g, 0, none⟩) 1 1) (hgz : w.heap.size = g) (hcs : cs.size = size) (h1 : cs.toList.all Value.oneCell' = true) (hb : (n + 1) * bytes ≤ 140737488355328)
    (h : ∀ A' c' w', Sep F W w' (items.set k (sufI e size A' (n + 1) c' (xs ++ cs.toList))) → wpList P ops Q rest (a.put o.dst (.slice A' (n + 1) c')) w') : wpList P ops Q (o :: rest) a (w.alloc (.cells cs e)) :=
  wpList_plain hgd fun K hK => by
    subst hgz
    obtain ⟨A', c', w', hrun, hS', _⟩ := (hS.alloc (.cells cs e)).sufApp (P := P) o.type T k hk (m := 1) (c2 := 1) (by omega) (by simp [hcs]) (new_cells w e cs) (fun u hu => List.all_eq_true.1 h1 u hu) hb
    unfold Oper.wp execOp
    simp only [ho, resolve, invoke, builtin, Sem.run_bind, Sem.run_pure, Result.andThen_ok, List.map_toArray, List.map_cons, List.map_nil, hs, hx, hrun]
    exact hK _ _ (h A' c' w' hS')
theorem step_suf {w : World} {ops : Array Oper} {o : Oper} {a : Act} {K : Act → World → Prop} {Q : Exit → Act → World → Prop} {E : Prop} (hgd : o.guard = none) (s x : Operand) (t : TypeId)
    (ho : o.op = .call { callee := .builtin .append, args := #[s, x], argTypes := #[t, t] })
    {F : Nat → Prop} {W : World} {items : List Item} {e size n c bytes : Nat} {A : Option Addr} {xs : List Value} (T : SliceT P t e size bytes) (hS : Sep F W w items) (k : Nat) (hk : items[k]? = some (sufI e size A n c xs)) (hs : a.eval s = .slice A n c)
    {ad : Addr} {news : List Value} (hx : a.eval x = .slice (some ad) 1 1) (hl : news.length = size) (hnews : ∀ j u, news[j]? = some u → w.cell? (ad.add j) = some u) (h1 : ∀ u ∈ news, u.oneCell' = true) (hb : (n + 1) * bytes ≤ 140737488355328)
    (h : ∀ A' c' w', Sep F W w' (items.set k (sufI e size A' (n + 1) c' (xs ++ news))) → K (a.put o.dst (.slice A' (n + 1) c')) w') :
    if Region.wanted o (yielded ops a.tmps) = true then Oper.wp P o a w K Q else E := by
  have hw : Region.wanted o (yielded ops a.tmps) = true := by simp [Region.wanted, hgd]
  rw [if_pos hw]
  obtain ⟨A', c', w', hrun, hS', _⟩ := hS.sufApp (P := P) o.type T k hk (m := 1) (c2 := 1) (by omega) (by rw [hl, Nat.one_mul]) hnews h1 hb
  unfold Oper.wp execOp
  simp only [ho, resolve, invoke, builtin, Sem.run_bind, Sem.run_pure, Result.andThen_ok, List.map_toArray, List.map_cons, List.map_nil, hs, hx, hrun]
  exact h A' c' w' hS'
theorem step_suf1 {w : World} {ops : Array Oper} {o : Oper} {a : Act} {K : Act → World → Prop} {Q : Exit → Act → World → Prop} {E : Prop} (hgd : o.guard = none) (s x : Operand) (t : TypeId)
    (ho : o.op = .call { callee := .builtin .append, args := #[s, x], argTypes := #[t, t] })
    {F : Nat → Prop} {W : World} {items : List Item} {e size n c bytes : Nat} {A : Option Addr} {xs : List Value} (T : SliceT P t e size bytes) (hS : Sep F W w items) (k : Nat) (hk : items[k]? = some (sufI e size A n c xs)) (hs : a.eval s = .slice A n c)
    {cs : Array Value} {g : Nat} (hx : a.eval x = .slice (some ⟨g, 0, none⟩) 1 1) (hgz : w.heap.size = g) (hcs : cs.size = size) (h1 : cs.toList.all Value.oneCell' = true) (hb : (n + 1) * bytes ≤ 140737488355328)
    (h : ∀ A' c' w', Sep F W w' (items.set k (sufI e size A' (n + 1) c' (xs ++ cs.toList))) → K (a.put o.dst (.slice A' (n + 1) c')) w') :
    if Region.wanted o (yielded ops a.tmps) = true then Oper.wp P o a (w.alloc (.cells cs e)) K Q else E := by
  subst hgz
  exact step_suf hgd s x t ho T (hS.alloc _) k hk hs hx (by simp [hcs]) (new_cells w e cs) (fun u hu => List.all_eq_true.1 h1 u hu) hb h
theorem step_suf1d {w : World} {ops : Array Oper} {o : Oper} {a : Act} {K : Act → World → Prop} {Q : Exit → Act → World → Prop} {E : Prop} (hgd : o.guard = none) (s x : Operand) (t : TypeId)
    (ho : o.op = .call { callee := .builtin .append, args := #[s, x], argTypes := #[t, t] })
    {F : Nat → Prop} {W : World} {items : List Item} {e size n c bytes : Nat} {A : Option Addr} {xs : List Value} (T : SliceT P t e size bytes) (hS : Sep F W w items) (k : Nat) (hk : items[k]? = some (sufI e size A n c xs)) (hs : a.eval s = .slice A n c)
    {cs : Array Value} {g : Nat} (hx : a.eval x = .slice (some ⟨g, 0, none⟩) 1 1) (hgz : w.heap.size = g) (hcs : cs.size = size) (h1 : cs.toList.all Value.oneCell' = true) (hb : (n + 1) * bytes ≤ 140737488355328)
    (h : ∀ A' c' w', Sep F W w' (items.set k (sufI e size A' (n + 1) c' (xs ++ cs.toList))) → K (a.put o.dst (.slice A' (n + 1) c')) w') :
    if Region.wanted o (yielded ops a.tmps) = true then Oper.wp P o a (w.alloc (.cells cs e)).drew K Q else E := by
  subst hgz
  exact step_suf hgd s x t ho T (hS.alloc _).drew k hk hs hx (by simp [hcs]) (fun j u hu => by rw [World.cell?_drew]; exact new_cells w e cs j u hu) (fun u hu => List.all_eq_true.1 h1 u hu) hb h
end
end Go.Proofs.Ytjphckfbbiehdaa

namespace Go.Proofs.Ytjphckfbbiehdaa
open Go.RowKit
theorem len8 {α : Type} {l : List α} (h : l.length = 8) : ∃ a0 a1 a2 a3 a4 a5 a6 a7, l = [a0, a1, a2, a3, a4, a5, a6, a7] := by
  match l, h with
  | [a0, a1, a2, a3, a4, a5, a6, a7], _ => exact ⟨_, _, _, _, _, _, _, _, rfl⟩
def CoS.drop (s : CoS) (i : Nat) : CoS := { s with oj := { s.oj with ps := s.oj.ps.set i none } }
end Go.Proofs.Ytjphckfbbiehdaa

namespace Go.Proofs.Ytjphckfbbiehdaa
open Go.RowKit
theorem row2 {F : Nat → Prop} {W w : World} {items : List Item} (h : Sep F W w items) (k : Nat) {g t : Nat} (hk : items[k]? = some (blkI g t #[])) : Sep F W w (items.set k (rowI t 2 (some ⟨g, 0, none⟩) 0 0 [])) :=
  h.step k hk (Chg.refl _ w) _ ⟨by simp, .inr ⟨g, 0, #[], rfl, Nat.zero_le _, h.get k hk, Nat.le_refl _, by simp only [maxLen]; omega, rfl, by simp⟩⟩ (fun g' hg => .inl (by
    have : g = g' := by simpa [rowI, Value.ownBlock] using hg
    exact this.symm))
theorem eqlNilV (w : World) : (binOp .eql 25 (.slice none 0 0) (.slice none 0 0)).run Try.prog w = .ok (.bool true) w := by kernel_rfl
theorem eqlSomeV (w : World) (ad : Addr) (n c : Nat) : (binOp .eql 25 (.slice (some ad) n c) (.slice none 0 0)).run Try.prog w = .ok (.bool false) w := by
  have h := run_equal_slice_nil (P := Try.prog) w 25 107 (some ad) n c Try.underlying25
  unfold binOp
  simp [h, go_sem]
theorem vals_one (l : List Val) : ∀ u ∈ vals l, u.oneCell' = true := fun u hu => by
  unfold vals at hu
  obtain ⟨v, _, hv⟩ := List.mem_flatMap.1 hu
  simp at hv
  rcases hv with rfl | rfl <;> rfl
set_option maxRecDepth 100000 in
set_option maxHeartbeats 1600000 in
theorem cloneV_any (w : World) (A : Option Addr) (n c : Nat) (xs : List Val) (hA : A = none → c = 0) (hn : n ≤ 1000) (hR : Rd w (fun _ => True) 2 A n (vals xs)) :
    Calls Try.prog 137 #[.slice A n c] w fun e w' => ∃ A' c', e = .returned (.slice A' n c') ∧ Sep No w w' [rowI 107 2 A' n c' (vals xs)] := by
  cases A with
  | none =>
    obtain rfl := hA rfl
    have hn0 : n = 0 := by
      rcases Nat.eq_zero_or_pos n with h | h
      · exact h
      · obtain ⟨ad, h1, _⟩ := hR.2 h; cases h1
    subst hn0
    have hx : vals xs = [] := List.eq_nil_of_length_eq_zero (by have := hR.1; simpa using this)
    rw [hx]
    have HS := hide ((Sep.nil No w).nilRow 107 2)
    clear hx hR
    have hnil := eqlNilV
    go_enter Try.func137, Try.ntmps137
    go_wp2_with fail
    go_ret
    exact ⟨none, 0, rfl, HS.out⟩
  | some ad =>
    have hS := row2 ((Sep.nil No w).blkAt 107 #[] rfl) 0 rfl
    have hR1 := hR.below hS.below_
    have hnil := eqlSomeV
    go_enter Try.func137, Try.ntmps137
    go_wp2_with (first
      | (at_builtin
         refine wpList_app rfl (.tmp 5) (.tmp 6) 25 rfl sVal hS 0 (n := 0) rfl rfl rfl hR1 (vals_one _) (by omega) ?_
         intro A4 c4 w4 hS4 hC4))
    go_ret
    rw [Nat.zero_add] at hS4
    exact ⟨A4, c4, by first | rfl | simp, hS4⟩
end Go.Proofs.Ytjphckfbbiehdaa

namespace Go.Proofs.Ytjphckfbbiehdaa
open Go.RowKit
abbrev poPtr (p : Po) : Value := .pointer (some ⟨p.B, 0, none⟩)
theorem po_snoc {w X : World} {B g5 n c5 q c7 : Nat} {A5 A7 : Option Addr} {fs : List Val} {ps : List Po} {cs : Array Value} {x : Item}
    (h : Sep No w X (blkI B 119 #[.slice A5 n c5] :: rowI 107 2 A5 n c5 (vals fs) :: blkI g5 119 cs :: x :: rowI 170 1 A7 (q + 1) c7 (ps.map poPtr ++ [.pointer (some ⟨B, 0, none⟩)]) :: ps.map poI)) :
    Sep No w X (x :: rowI 170 1 A7 (q + 1) c7 ((ps ++ [(⟨B, ⟨A5, n, c5, fs⟩⟩ : Po)]).map poPtr) :: (ps ++ [(⟨B, ⟨A5, n, c5, fs⟩⟩ : Po)]).map poI) := by
  have h0 := h.sub (l := blkI B 119 #[.slice A5 n c5] :: rowI 107 2 A5 n c5 (vals fs) :: x :: rowI 170 1 A7 (q + 1) c7 (ps.map poPtr ++ [.pointer (some ⟨B, 0, none⟩)]) :: ps.map poI) (.cons_cons _ (.cons_cons _ (.cons _ (List.Sublist.refl _))))
  have h1 := (h0.join (l := [blkI B 119 #[.slice A5 n c5], rowI 107 2 A5 n c5 (vals fs)])).perm (List.perm_append_comm (l₁ := [_]))
  rw [List.map_append, List.map_append]
  exact h1
set_option maxRecDepth 100000 in
set_option maxHeartbeats 16000000 in
theorem heapOf_any (w : World) (AO AR : Option Addr) (nO cO nR cR : Nat) (obs : List Ob) (gs : List (List Val)) (hgs : obs.map Ob.fields = gs) (hO : ObsRd w (fun _ => True) AO nO obs) (hnO : nO ≤ 24) (h4 : ∀ o ∈ obs, o.n ≤ 4) (hcp : ∀ o ∈ obs, o.A = none → o.c = 0) :
    Calls Try.prog 71 #[.agg #[.slice AO nO cO, .slice AR nR cR]] w fun e w' => ∃ (As : Option Addr) (c : Nat) (ps : List Po), e = .returned (.slice As nO c) ∧ ps.length = nO ∧ ps.map (fun p => p.o.fields) = gs ∧ Sep No w w' (rowI 170 1 As nO c (ps.map poPtr) :: ps.map poI) := by
  obtain ⟨g, hg⟩ : ∃ g, w.heap.size = g := ⟨_, rfl⟩
  have hS0 := ((Sep.nil No w).blkAt 27 #[.slice AO nO cO, .slice AR nR cR] hg).nilRow 170 1
  obtain ⟨a1, a2, a3, a4⟩ := hS0.rules 0 (g := g) (t := 27) rfl
  have a5 := (a1 0).trans (show _ = some (.slice AO nO cO) from rfl)
  have HGS := hide hgs
  have H4 := hide h4
  have HCP := hide hcp
  have HS0 := hide hS0
  have HOL := hide hO.len
  clear hS0 a1 hgs h4 hcp
  go_enter Try.func71, Try.ntmps71
  go_wp2_with fail
  go_loopw [3, 9] (fun s i wr => ∃ (q : Nat) (A' : Option Addr) (c' : Nat) (ps : List Po), q ≤ nO ∧ i = .int .i64 q ∧ s = .slice A' q c' ∧ Hid (ps.map (fun p => p.o.fields) = gs.take q) ∧
    Sep No w wr (blkI g 27 #[.slice AO nO cO, .slice AR nR cR] :: rowI 170 1 A' q c' (ps.map poPtr) :: ps.map poI)) (fun _ i _ => nO - (intOf i).toNat)
  case atStart => exact ⟨0, none, 0, [], by omega, rfl, rfl, by simp [Hid], HS0.out⟩
  case round =>
    clear HS0 a2 a3 a5
    obtain ⟨q, A', c', ps, hq, rfl, rfl, HP, hS⟩ := hrel
    by_cases hlq : q < nO
    · obtain ⟨ad2, hA2, _, had2, hc2⟩ := (hO.below hS.below_).row.at_ hlq
      have hxl : q < obs.length := by rw [HOL.out]; exact hlq
      have e1 := hc2 obs[q].val (by simp [List.getElem?_eq_getElem hxl])
      have hEach := hO.each _ (List.getElem_mem hxl)
      have ho4 := H4.out _ (List.getElem_mem hxl)
      have hoc := HCP.out _ (List.getElem_mem hxl)
      have hgt : gs.take (q + 1) = gs.take q ++ [obs[q].fields] := by
        rw [← HGS.out, ← List.map_take, ← List.map_take, List.take_succ_eq_append_getElem hxl, List.map_append]; rfl
      have HGT := hide hgt
      obtain ⟨o, ho⟩ : ∃ o, obs[q] = o := ⟨_, rfl⟩
      rw [ho] at e1 hEach ho4 hoc HGT
      unfold Ob.val at e1
      obtain ⟨oA, on, oc, ofs⟩ := o
      dsimp only at e1 hEach ho4 hoc HGT
      obtain ⟨g5, hg5⟩ : ∃ x, wr.heap.size = x := ⟨_, rfl⟩
      have hS1 := (hS.blkAt 119 #[.slice oA on oc] hg5).perm List.perm_append_comm
      have CC := hide (fun W (hb : Below w.heap.size w W) => cloneV_any W oA on oc ofs hoc (by omega) (hEach.below hb))
      have HS1 := hide hS1
      subst hA2
      clear hc2 ho hgt hS1 hS hoc hEach
      go_wp2_with fail
      refine (CC.out _ HS1.out.below_).mono ?_
      rintro e w3 ⟨A5, c5, rfl, hP⟩
      have hS3 := HS1.out.consNew hP.below_ _ (hP.get 0 rfl) (fun g hg => (hP.lo 0 rfl g hg).resolve_left (fun h => h))
      obtain ⟨b7, hb7⟩ : ∃ x, w3.heap.size = x := ⟨_, rfl⟩
      have hS4 := (hS3.blkAt 119 #[.slice A5 on c5] hb7).perm List.perm_append_comm
      clear hP hS3 HS1 CC
      go_wp2_with (first
        | (at_builtin
           refine wpList_app1 (cs := #[.pointer (some ⟨b7, 0, none⟩)]) rfl (.tmp 13) (.tmp 19) 101 rfl (F := No) (W := w) sPtr (items := _ :: _ :: _ :: _ :: _ :: _) hS4 4 (n := q) rfl rfl rfl (by simp [hb7]) rfl rfl (by omega) ?_
           intro A7 c7 w7 hS7 hC7))
      go_roundw
      case rel => exact ⟨q + 1, A7, c7, ps ++ [(⟨b7, ⟨A5, on, c5, ofs⟩⟩ : Po)], by omega, by go_num, rfl, by
        show (ps ++ [(⟨b7, ⟨A5, on, c5, ofs⟩⟩ : Po)]).map (fun p => p.o.fields) = gs.take (q + 1)
        rw [List.map_append, HP.out, HGT.out]; rfl, po_snoc hS7⟩
      case measure => simp [intOf]; omega
    · obtain rfl : q = nO := by omega
      go_wp2_with fail
      go_ret
      have h := HP.out
      have hgl : gs.length = q := by rw [← HGS.out, List.length_map]; exact HOL.out
      rw [List.take_of_length_le (by omega)] at h
      refine ⟨A', c', ps, rfl, ?_, h, hS.sub (List.sublist_cons_self _ _)⟩
      have h2 := congrArg List.length h
      rw [List.length_map] at h2
      omega
end Go.Proofs.Ytjphckfbbiehdaa

namespace Go.Proofs.Ytjphckfbbiehdaa
open Go.RowKit
def CoS.a (s : CoS) (regs : List Val) : CoA := ⟨regs, s.oj.abs, s.cols, s.gone⟩
/-- The memory, from what it is made of. -/
def co1 (As : Option Addr) (c : Nat) (ps : List Po) (Ac : Option Addr) (cc : Nat) : CoS := ⟨⟨As, c, ps.map some⟩, Ac, cc, List.replicate ps.length 0, none, 0, []⟩
theorem co1_abs (As : Option Addr) (c : Nat) (ps : List Po) (Ac : Option Addr) (cc : Nat) : (co1 As c ps Ac cc).oj.abs = (ps.map fun p => p.o.fields).map some := by
  unfold co1 Oj.abs
  dsimp only
  rw [List.map_map, List.map_map]
  rfl
end Go.Proofs.Ytjphckfbbiehdaa

namespace Go.Proofs.Ytjphckfbbiehdaa
open Go.RowKit
theorem outsV_one (o : OutV) : outsV [o] = [.int .i64 o.code, .bool o.rf, .int .i64 o.n] := rfl
end Go.Proofs.Ytjphckfbbiehdaa

namespace Go.Proofs.Ytjphckfbbiehdaa
open Go.RowKit
theorem Sep.blkAtF {F : Nat → Prop} {W w : World} {items : List Item} (h : Sep F W w items) (t : TypeId) (cs : Array Value) {g : Nat} (hg : w.heap.size = g) : Sep F W (w.alloc (.cells cs t)) (blkI g t cs :: items) := (h.blkAt t cs hg).perm (List.perm_append_comm (l₂ := [_]))
theorem objs_new {W w w' : World} {items : List Item} {As : Option Addr} {nO c2 : Nat} {ps : List Po} (h : Sep No W w items) (hP : Sep No w w' (rowI 170 1 As nO c2 (ps.map poPtr) :: ps.map poI)) : Sep No W w' (allI (rowI 170 1 As nO c2 (ps.map poPtr) :: ps.map poI) :: items) :=
  h.consNew hP.below_ _ (hP.fold.get 0 rfl) (fun g hg => (hP.fold.lo 0 rfl g hg).resolve_left (fun h => h))
theorem row_new {W w w' : World} {items : List Item} {i : Item} (h : Sep No W w items) (hP : Sep No w w' [i]) : Sep No W w' (i :: items) :=
  h.consNew hP.below_ _ (hP.get 0 rfl) (fun g hg => (hP.lo 0 rfl g hg).resolve_left (fun h => h))
end Go.Proofs.Ytjphckfbbiehdaa
