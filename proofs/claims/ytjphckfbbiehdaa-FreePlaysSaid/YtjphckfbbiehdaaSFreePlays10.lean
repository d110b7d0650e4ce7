/- The reference's memory: what is done, where nothing is wrong. The reference: two rows of blocks are the same; two such answers are the same. The reference's yard: words are taken, and given back. -/
import Derived.Test.YtjphckfbbiehdaaSFreePlays2
import Derived.Laws.StructEq
import Derived.Test.YtjphckfbbiehdaaSFreePlays5
import Derived.BigQuiet
set_option linter.unusedSimpArgs false
set_option linter.unusedVariables false
namespace Go.Proofs.Ytjphckfbbiehdaa
open Go.RowKit
def rWrong (d : DoV) (σ : MSt) : Int := if wrongM d ≠ 0 then wrongM d else if d.k = 4 then fErr σ.objs (rgA σ.regs d.to) d.at_ else if d.k = 5 then fErr σ.objs (rgA σ.regs d.fr) d.at_ else 0
theorem stepM_rw (d : DoV) (σ : MSt) : stepM d σ = if rWrong d σ ≠ 0 then (⟨rWrong d σ, false, 0⟩, σ) else stepK d σ := by
  unfold stepM rWrong
  by_cases h : wrongM d ≠ 0
  · simp [h]
  · rw [if_neg h, if_neg h]
    unfold stepK
    by_cases h4 : d.k = 4
    · rw [h4]
      simp only [show ¬(4 : Int) = 1 from by decide, show ¬(4 : Int) = 2 from by decide, show ¬(4 : Int) = 3 from by decide, if_false, if_true]
      by_cases hp : fErr σ.objs (rgA σ.regs d.to) d.at_ = 0 <;> simp [hp]
    by_cases h5 : d.k = 5
    · rw [h5]
      simp only [show ¬(5 : Int) = 1 from by decide, show ¬(5 : Int) = 2 from by decide, show ¬(5 : Int) = 3 from by decide, show ¬(5 : Int) = 4 from by decide, if_false, if_true]
      by_cases hp : fErr σ.objs (rgA σ.regs d.fr) d.at_ = 0 <;> simp [hp]
    · simp [h4, h5]
end Go.Proofs.Ytjphckfbbiehdaa

namespace Go.Proofs.Ytjphckfbbiehdaa
open Go.RowKit
theorem neq_bk (w : World) (c n : Int) : (binOp .neq 231 (.agg #[.int .i64 c, .int .i64 n]) (.agg #[.int .i64 c, .int .i64 n])).run Try.prog w = .ok (.bool false) w := by
  have h1 : Try.prog.underlying 231 = some (.struct (Try.prog.fieldsOf 231)) := by kernel_rfl
  have h2 : Try.prog.stoodInHeld 231 = false := by kernel_rfl
  obtain ⟨F, hF⟩ : ∃ F, (Try.prog.fieldsOf 231).toList = F := ⟨_, rfl⟩
  have h5 : F = [F[0]!, F[1]!] := by rw [← hF]; kernel_rfl
  have n1 : (F[0]!).name ≠ "_" := by rw [← hF]; rw [show ((Try.prog.fieldsOf 231).toList[0]!).name = "At" from by kernel_rfl]; decide
  have n2 : (F[1]!).name ≠ "_" := by rw [← hF]; rw [show ((Try.prog.fieldsOf 231).toList[1]!).name = "Len" from by kernel_rfl]; decide
  obtain ⟨t0, ht0⟩ : ∃ t, (F[0]!).type = t := ⟨_, rfl⟩
  obtain ⟨t1, ht1⟩ : ∃ t, (F[1]!).type = t := ⟨_, rfl⟩
  have u0 : ∃ k, Try.prog.underlying t0 = some (.int k) := by rw [← ht0, ← hF]; exact ⟨.i64, by kernel_rfl⟩
  have u1 : ∃ k, Try.prog.underlying t1 = some (.int k) := by rw [← ht1, ← hF]; exact ⟨.i64, by kernel_rfl⟩
  have o0 : ∀ x y, (part t0 #[x, y] (F[0]!).offset).run Try.prog w = .ok x w := fun x y => by rw [← ht0, ← hF]; kernel_rfl
  have o1 : ∀ x y, (part t1 #[x, y] (F[1]!).offset).run Try.prog w = .ok y w := fun x y => by rw [← ht1, ← hF]; kernel_rfl
  rw [run_neq_struct, run_equalIn_agg _ _ _ _ _ h1 h2, hF, h5]
  obtain ⟨k0, u0⟩ := u0
  obtain ⟨k1, u1⟩ := u1
  simp only [Op.eqFields, ht0, ht1, n1, n2, ne_eq, not_false_iff, if_true, Sem.run_ite, Sem.run_bind, o0, o1, Result.andThen_ok, run_equalIn_int w _ _ _ _ _ _ u0, run_equalIn_int w _ _ _ _ _ _ u1]
  simp
theorem guard_bk (w : World) (x y : Operand) (a b : Array Value) : (eqGuard .neq 231 x y (.agg a) (.agg b)).run Try.prog w = .ok () w :=
  run_eqGuard_agg w .neq _ x y _ _ (by kernel_rfl)
set_option maxRecDepth 100000 in
set_option maxHeartbeats 8000000 in
theorem bks_any (w : World) (A1 A2 : Option Addr) (n c1 c2 : Nat) (os : List Bk) (hn : n ≤ 1000) (h1 : Rd w (fun _ => True) 2 A1 n (bkV os)) (h2 : Rd w (fun _ => True) 2 A2 n (bkV os)) :
    Calls Try.prog 51 #[.slice A1 n c1, .slice A2 n c2] w fun e w' => e = .returned (.bool true) ∧ Below w.heap.size w w' := by
  have HL := hide (show os.length = n by have := h1.1; rw [bkV_length] at this; omega)
  have hng := neq_bk
  have hgd := guard_bk
  go_enter Try.func51, Try.ntmps51
  go_wp2_with fail
  go_loopw [5] (fun s wr => ∃ (k : Nat), k ≤ n ∧ s = .int .i64 k ∧ Below w.heap.size w wr) (fun s _ => n - (intOf s).toNat)
  case atStart => exact ⟨0, by omega, rfl, Below.refl _ _⟩
  case round =>
    obtain ⟨k, hk, rfl, hb⟩ := hrel
    by_cases hlt : k < n
    · have hkl : k < os.length := by rw [HL.out]; exact hlt
      obtain ⟨v0, v1⟩ := bkV_at os k hkl
      obtain ⟨ad, hA, _, had, hc, hd⟩ := (h1.below hb).atN hlt
      obtain ⟨ad2, hA2, _, had2, hc2, hd2⟩ := (h2.below hb).atN hlt
      have e0 := hc _ v0
      have e1 := hd 0 _ v1
      have f0 := hc2 _ v0
      have f1 := hd2 0 _ v1
      obtain ⟨o, ho⟩ : ∃ o, os[k] = o := ⟨_, rfl⟩
      rw [ho] at e0 e1 f0 f1
      obtain ⟨cN, mN⟩ := o
      dsimp only at e0 e1 f0 f1
      obtain ⟨c, hc'⟩ : ∃ c : Int, (cN : Int) = c := ⟨_, rfl⟩
      obtain ⟨m, hm'⟩ : ∃ m : Int, (mN : Int) = m := ⟨_, rfl⟩
      rw [hc'] at e0 f0
      rw [hm'] at e1 f1
      subst hA hA2
      have HB := hide hb
      clear hc hd hc2 hd2 v0 v1 hb ho hc' hm'
      go_wp2_with fail
      go_region_held3 (fun w' => w'.cell? (ad.add (k * 2)) = some (.int .i64 c) ∧ w'.cell? ⟨(ad.add (k * 2)).block, (ad.add (k * 2)).off + 1, none⟩ = some (.int .i64 m) ∧ w'.cell? (ad2.add (k * 2)) = some (.int .i64 c) ∧ w'.cell? ⟨(ad2.add (k * 2)).block, (ad2.add (k * 2)).off + 1, none⟩ = some (.int .i64 m)) (go_keep) (fail)
      all_goals go_wp2_with fail
      all_goals exact ⟨⟨k + 1, by omega, by go_num, HB.out.drew⟩, by simp [intOf]; omega⟩
    · obtain rfl : k = n := by omega
      go_wp2_with fail
      go_ret
      exact ⟨rfl, hb⟩
/-- An answer, as a value. -/
def freedV (A1 A2 A3 : Option Addr) (n m c1 c2 c3 : Nat) : Value := .agg #[.slice A1 n c1, .slice A2 n c2, .slice A3 m c3]
set_option maxRecDepth 100000 in
set_option maxHeartbeats 8000000 in
theorem freed_any (w : World) (A1 A2 A3 B1 B2 B3 : Option Addr) (n m c1 c2 c3 d1 d2 d3 : Nat) (cs ats : List Int) (bs : List Bk) (hn : n ≤ 1000) (hm : m ≤ 1000) (h1 : Rd w (fun _ => True) 1 A1 n (ints cs)) (h2 : Rd w (fun _ => True) 1 A2 n (ints ats)) (h3 : Rd w (fun _ => True) 2 A3 m (bkV bs)) (k1 : Rd w (fun _ => True) 1 B1 n (ints cs)) (k2 : Rd w (fun _ => True) 1 B2 n (ints ats)) (k3 : Rd w (fun _ => True) 2 B3 m (bkV bs)) :
    Calls Try.prog 19 #[freedV A1 A2 A3 n m c1 c2 c3, freedV B1 B2 B3 n m d1 d2 d3] w fun e w' => e = .returned (.bool true) ∧ Below w.heap.size w w' := by
  unfold freedV
  obtain ⟨g, hg⟩ : ∃ g, w.heap.size = g := ⟨_, rfl⟩
  have hS := ((Sep.nil No w).blkAt 49 #[.slice A1 n c1, .slice A2 n c2, .slice A3 m c3] hg).blkAt 49 #[.slice B1 n d1, .slice B2 n d2, .slice B3 m d3] (g := g + 1) (by simp [hg])
  have HL := hide (show cs.length = n by have := h1.1; simpa using this)
  have C1 := hide (fun (X : World) (hb : Below w.heap.size w X) => ints_same X (fun _ => True) (fun _ => True) A2 B2 n c2 d2 ats (by omega) (h2.below hb) (k2.below hb))
  have C2 := hide (fun (X : World) (hb : Below w.heap.size w X) => bks_any X A3 B3 m c3 d3 bs hm (h3.below hb) (k3.below hb))
  have HS := hide hS
  clear h2 h3 k2 k3 hm hS
  go_enter Try.func19, Try.ntmps19
  go_wp2_with fail
  go_loopw [5] (fun s wr => ∃ (k : Nat), k ≤ n ∧ s = .int .i64 k ∧ Sep No w wr [blkI g 49 #[.slice A1 n c1, .slice A2 n c2, .slice A3 m c3], blkI (g + 1) 49 #[.slice B1 n d1, .slice B2 n d2, .slice B3 m d3]]) (fun s _ => n - (intOf s).toNat)
  case atStart => exact ⟨0, by omega, rfl, HS.out⟩
  case round =>
    clear HS
    obtain ⟨k, hk, rfl, hS⟩ := hrel
    obtain ⟨a1, a2, a3, -⟩ := hS.rules 0 (g := g) (t := 49) rfl
    obtain ⟨b1, b2, b3, -⟩ := hS.rules 1 (g := g + 1) (t := 49) rfl
    have a5 := (a1 0).trans (show _ = some (.slice A1 n c1) from rfl)
    have a6 := (a1 1).trans (show _ = some (.slice A2 n c2) from rfl)
    have a7 := (a1 2).trans (show _ = some (.slice A3 m c3) from rfl)
    have b5 := (b1 0).trans (show _ = some (.slice B1 n d1) from rfl)
    have b6 := (b1 1).trans (show _ = some (.slice B2 n d2) from rfl)
    have b7 := (b1 2).trans (show _ = some (.slice B3 m d3) from rfl)
    by_cases hlt : k < n
    · have hkl : k < cs.length := by rw [HL.out]; exact hlt
      obtain ⟨ad, hA, _, had, hc⟩ := (h1.below hS.below_).at_ hlt
      obtain ⟨ad2, hA2, _, had2, hc2⟩ := (k1.below hS.below_).at_ hlt
      have e0 := hc (.int .i64 cs[k]) (by simp [List.getElem?_eq_getElem hkl])
      have f0 := hc2 (.int .i64 cs[k]) (by simp [List.getElem?_eq_getElem hkl])
      obtain ⟨x, hx⟩ : ∃ x, cs[k] = x := ⟨_, rfl⟩
      rw [hx] at e0 f0
      subst hA hA2
      have HS := hide hS
      have t1 : (x != x) = false := by simp
      clear hc hc2 hx hS hkl a1 b1
      go_upto_region 6 with fail
      go_quiet (fail)
      go_wp2_with fail
      exact ⟨⟨k + 1, by omega, by go_num, HS.out.drewN _⟩, by simp [intOf]; omega⟩
    · obtain rfl : k = n := by omega
      have C1 := hide (C1.out _ hS.below_)
      have HS := hide hS
      clear hS a1 b1
      go_wp2_with fail
      refine C1.out.mono ?_
      rintro e w6 ⟨rfl, hb6⟩
      have hS6 := HS.out.below hb6
      obtain ⟨a1, a2, a3, -⟩ := hS6.rules 0 (g := g) (t := 49) rfl
      obtain ⟨b1, b2, b3, -⟩ := hS6.rules 1 (g := g + 1) (t := 49) rfl
      have a7 := (a1 2).trans (show _ = some (.slice A3 m c3) from rfl)
      have b7 := (b1 2).trans (show _ = some (.slice B3 m d3) from rfl)
      have C2 := hide (C2.out _ hS6.below_)
      have HB6 := hide hS6.below_
      clear hS6 hb6 HS C1 a1 b1
      go_wp2_with fail
      refine C2.out.mono ?_
      rintro e w7 ⟨rfl, hb7⟩
      have HB7 := hide (HB6.out.trans (hb7.mono HB6.out.size))
      clear hb7 HB6
      go_wp2_with fail
      go_ret
      exact ⟨rfl, HB7.out⟩
end Go.Proofs.Ytjphckfbbiehdaa

namespace Go.Proofs.Ytjphckfbbiehdaa
open Go.RowKit
theorem pl1_app (l : List (Int × Nat)) (e : Int × Nat) : ints (pl1 (l ++ [e])) = ints (pl1 l) ++ [.int .i64 e.1] := by simp [pl1, ints]
theorem pl2_app (l : List (Int × Nat)) (e : Int × Nat) : ints (pl2 (l ++ [e])) = ints (pl2 l) ++ [.int .i64 (e.2 : Int)] := by simp [pl2, ints]
def FyT.tak (t : FyT) (at_ n : Nat) (A1 A2 : Option Addr) (c1 c2 : Nat) : FyT := { t with tk := setTk t.tk at_ n true, pl := t.pl ++ [((at_ : Int), n)], Aa := A1, ca := c1, Al := A2, cl := c2, last := at_ + n }
set_option maxRecDepth 100000 in
set_option maxHeartbeats 4000000 in
theorem fytake_any {F : Nat → Prop} {W0 w : World} {B : Nat} {t : FyT} {x : Item} (h : Sep F W0 w (x :: fyR B t)) {at_ n : Nat} (hfit : at_ + n ≤ t.tk.length) (hn : t.tk.length ≤ 300) (hp : t.pl.length ≤ 1000) :
    Calls Try.prog 54 #[.pointer (some ⟨B, 0, none⟩), .int .i64 (at_ : Int), .int .i64 (n : Int)] w fun e w' => (∃ u, e = .returned u) ∧ ∃ t' : FyT, t'.y = t.y.take (at_, 0) n ∧ Sep F W0 w' (x :: fyR B t') := by
  have CS := hide (fyset_any h hfit hn true)
  obtain ⟨l, hl⟩ : ∃ l, t.pl.length = l := ⟨_, rfl⟩
  have HL := hide hl
  rw [hl] at hp
  have w1 : IntKind.i64.wrap ((at_ : Int) + (n : Int)) = ((at_ + n : Nat) : Int) := by rw [wrapF64 _ (by omega) (by omega)]; omega
  clear h hfit hl
  go_enter Try.func54, Try.ntmps54
  go_wp2_with fail
  refine CS.out.mono ?_
  rintro e w1 ⟨⟨u, rfl⟩, hS⟩
  obtain ⟨-, y1, y2, y3, y4, y5⟩ := fy_cells (pre := [x]) hS
  rw [show (t.set at_ n true).pl.length = l from HL.out] at y1 y2
  have HS := hide (show Sep F W0 w1 [x, blkI B 135 (fyC (t.set at_ n true)), rowI 4 1 t.Ak (t.set at_ n true).tk.length t.ck (bools (t.set at_ n true).tk), rowI 3 1 t.Aa l t.ca (ints (pl1 t.pl)), rowI 3 1 t.Al l t.cl (ints (pl2 t.pl))] from by rw [← HL.out]; exact hS)
  clear hS CS
  go_wp2_with (first
    | (at_builtin
       refine wpList_app1 (cs := #[.int .i64 (at_ : Int)]) rfl (.tmp 14) (.tmp 16) 35 rfl (F := F) (W := W0) sInt (items := [_, _, _, _, _]) HS.out 3 (n := l) rfl rfl rfl (by simp) rfl rfl (by omega) ?_
       intro A1 c1 w6 hS6 hC6
       obtain ⟨u1, u2, u3, -⟩ := hS6.rules 1 (g := B) (t := 135) rfl
       (have u5 := (u1 1).trans (show _ = some (.slice t.Aa t.pl.length t.ca) from rfl))
       (have HS6 := hide (hS6.set_ 1 (g := B) (t := 135) rfl 1 (.slice A1 (l + 1) c1)))
       (have u6 := (u1 2).trans (show _ = some (.slice t.Al t.pl.length t.cl) from rfl))
       (rw [HL.out] at u6)
       clear hS6 hC6 u1)
    | (at_builtin
       refine wpList_app1 (cs := #[.int .i64 (n : Int)]) rfl (.tmp 24) (.tmp 26) 35 rfl (F := F) (W := W0) sInt (items := [_, _, _, _, _]) HS6.out 4 (n := l) rfl rfl rfl (by simp) rfl rfl (by omega) ?_
       intro A2 c2 w7 hS7 hC7
       obtain ⟨v1, v2, v3, -⟩ := hS7.rules 1 (g := B) (t := 135) rfl
       (have v5 := (v1 2).trans (show _ = some (.slice t.Al t.pl.length t.cl) from rfl))
       (have v6 := (v1 3).trans (show _ = some (.int .i64 (t.last : Int)) from rfl))
       (have HS7 := hide ((hS7.set_ 1 (g := B) (t := 135) rfl 2 (.slice A2 (l + 1) c2)).set_ 1 (g := B) (t := 135) rfl 3 (.int .i64 ((at_ + n : Nat) : Int))))
       clear hS7 hC7 v1))
  go_end0
  refine ⟨⟨_, rfl⟩, t.tak at_ n A1 A2 c1 c2, rfl, ?_⟩
  unfold fyR fyC FyT.tak
  dsimp only
  rw [List.length_append, List.length_singleton, HL.out, pl1_app, pl2_app]
  exact HS7.out
theorem find_at {pl : List (Int × Nat)} {x : Int} {k : Nat} (hk : k < pl.length) (h1 : pl[k].1 = x) (h2 : ∀ j e, j < k → pl[j]? = some e → e.1 ≠ x) : pl.findIdx? (fun e => e.1 == x) = some k := by
  rw [List.findIdx?_eq_some_iff_getElem]
  exact ⟨hk, by simpa using h1, fun j hj => by simpa using h2 j pl[j] hj (List.getElem?_eq_getElem (by omega))⟩
theorem find_not {pl : List (Int × Nat)} {x : Int} (h2 : ∀ j e, j < pl.length → pl[j]? = some e → e.1 ≠ x) : pl.findIdx? (fun e => e.1 == x) = none := by
  rw [List.findIdx?_eq_none_iff]
  intro e he
  obtain ⟨j, hj, rfl⟩ := List.getElem_of_mem he
  simpa using h2 j _ hj (List.getElem?_eq_getElem hj)
def FyT.giv (t : FyT) (k at_ n : Nat) : FyT := { t with tk := setTk t.tk at_ n false, pl := t.pl.set k (-1, n) }
theorem pl1_set (l : List (Int × Nat)) (k : Nat) (e : Int × Nat) : ints (pl1 (l.set k e)) = (ints (pl1 l)).set k (.int .i64 e.1) := by unfold ints pl1; rw [List.map_set, List.map_set]
theorem pl2_set (l : List (Int × Nat)) (k : Nat) (hk : k < l.length) (x : Int) : ints (pl2 (l.set k (x, l[k].2))) = ints (pl2 l) := by
  unfold ints pl2
  rw [List.map_set, List.map_set]
  apply List.ext_getElem?
  intro i
  rw [List.getElem?_set]
  split
  · rename_i e
    subst e
    rw [if_pos (by rw [List.length_map, List.length_map]; exact hk), List.getElem?_map, List.getElem?_map, List.getElem?_eq_getElem hk]
    rfl
  · rfl
def FyA.giveO (y : FyA) (x : Int) : FyA := match y.find x with | some i => y.give i | none => y
set_option maxRecDepth 100000 in
set_option maxHeartbeats 4000000 in
theorem fygive_any {F : Nat → Prop} {W0 w : World} {B : Nat} {t : FyT} {x : Item} (h : Sep F W0 w (x :: fyR B t)) {at_ : Nat} (hfit : ∀ i, t.y.find (at_ : Int) = some i → at_ + (t.pl.getD i (0, 0)).2 ≤ t.tk.length) (hn : t.tk.length ≤ 300) (hp : t.pl.length ≤ 1000) :
    Calls Try.prog 55 #[.pointer (some ⟨B, 0, none⟩), .int .i64 (at_ : Int)] w fun e w' => e = .returned (.bool (t.y.find (at_ : Int)).isSome) ∧ ∃ t' : FyT, t'.y = t.y.giveO (at_ : Int) ∧ Sep F W0 w' (x :: fyR B t') := by
  obtain ⟨l, hl⟩ : ∃ l, t.pl.length = l := ⟨_, rfl⟩
  have HL := hide hl
  rw [hl] at hp
  have HS0 := hide h
  have HFIT := hide hfit
  clear h hl hfit
  go_enter Try.func55, Try.ntmps55
  go_wp2_with fail
  go_loopw [5] (fun i wr => ∃ (k : Nat), k ≤ l ∧ i = .int .i64 (k : Int) ∧ Hid (∀ j e, j < k → t.pl[j]? = some e → e.1 ≠ (at_ : Int)) ∧ Sep F W0 wr (x :: fyR B t)) (fun i _ => l - (intOf i).toNat)
  case atStart => exact ⟨0, by omega, rfl, fun j e hj => by omega, HS0.out⟩
  case round =>
    clear HS0
    obtain ⟨k, hk, rfl, HK, hS⟩ := hrel
    obtain ⟨-, y1, y2, -, y4, y5⟩ := fy_cells (pre := [x]) hS
    rw [HL.out] at y1 y2
    by_cases hlt : k < l
    · have hkl : k < t.pl.length := by rw [HL.out]; exact hlt
      obtain ⟨ga, hga, hk1, z1, z2, z3⟩ := fint_at (hS.get 3 rfl) (z := k) hkl
      obtain ⟨gl, hgl, hk2, v1, v2, v3⟩ := fint_at (hS.get 4 rfl) (z := k) hkl
      have e1 : (pl1 t.pl)[k] = t.pl[k].1 := List.getElem_map ..
      have e2 : (pl2 t.pl)[k] = (t.pl[k].2 : Int) := List.getElem_map ..
      rw [e1] at z1
      rw [e2] at v1
      obtain ⟨⟨pa, pn⟩, hpe⟩ : ∃ e, t.pl[k] = e := ⟨_, rfl⟩
      have hkl2 : k < t.pl.length := hkl
      rw [hpe] at z1 v1
      dsimp only at z1 v1
      by_cases heq : pa = (at_ : Int)
      · subst heq
        have hf : t.y.find (at_ : Int) = some k := find_at hkl (by show t.pl[k].1 = _; rw [hpe]) HK.out
        have hgd : t.pl.getD k (0, 0) = ((at_ : Int), pn) := by rw [List.getD_eq_getElem?_getD, List.getElem?_eq_getElem hkl, hpe]; rfl
        have hft := HFIT.out k hf
        rw [hgd] at hft
        have CS := hide (fyset_any hS hft hn false)
        have HFD := hide hf
        have HGD := hide hgd
        have HPE := hide (show t.pl.set k (-1, pn) = t.pl.set k (-1, t.pl[k].2) from by rw [hpe])
        have HKL := hide hkl
        have HGA := hide hga
        rw [hga] at y1
        rw [hgl] at y2
        have t1 : (((at_ : Int)) == (at_ : Int)) = true := by simp
        clear hS hk1 hk2 hgl hga e1 e2 hpe hf hgd hft
        go_wp2_with fail
        refine CS.out.mono ?_
        rintro e w4 ⟨⟨u, rfl⟩, hS4⟩
        have hrow : (x :: fyR B (t.set at_ pn false))[3]? = some (rowI 3 1 (some ⟨ga, 0, none⟩) t.pl.length t.ca (ints (pl1 t.pl))) := by
          show some (rowI 3 1 t.Aa _ _ _) = _
          rw [HGA.out]; rfl
        have hS5 := hS4.store 3 hrow k (.int .i64 (-1))
        have e : (x :: fyR B (t.set at_ pn false)).set 3 (rowI 3 1 (some ⟨ga, 0, none⟩) t.pl.length t.ca ((ints (pl1 t.pl)).set k (.int .i64 (-1)))) = x :: fyR B (t.giv k at_ pn) := by
          unfold fyR fyC FyT.set FyT.giv
          dsimp only
          rw [List.length_set, pl1_set, HPE.out, pl2_set _ _ HKL.out, HGA.out]
          rfl
        rw [e] at hS5
        obtain ⟨-, y1, -, -, y4, y5⟩ := fy_cells (pre := [x]) hS4
        rw [show (t.set at_ pn false).pl.length = l from HL.out, show (t.set at_ pn false).Aa = some ⟨ga, 0, none⟩ from HGA.out] at y1
        obtain ⟨ga', hga', hk1, z1, z2, z3⟩ := fint_at (hS4.get 3 rfl) (z := k) HKL.out
        have hga2 : (t.set at_ pn false).Aa = some ⟨ga', 0, none⟩ := hga'
        obtain rfl : ga = ga' := by
          rw [show (t.set at_ pn false).Aa = t.Aa from rfl, HGA.out] at hga2
          injection hga2 with hga2
          injection hga2
        obtain ⟨b0, hb0⟩ : ∃ b, (pl1 (t.set at_ pn false).pl)[k] = b := ⟨_, rfl⟩
        rw [hb0] at z1
        have HS5 := hide hS5
        clear hS4 hS5 e hrow CS hga' hga2 hb0 hk1 v1 v2 v3 y2
        go_wp2_with fail
        go_ret
        refine ⟨by rw [HFD.out]; rfl, t.giv k at_ pn, ?_, HS5.out⟩
        unfold FyA.giveO
        rw [HFD.out]
        unfold FyA.give FyT.giv FyT.y
        dsimp only
        rw [HGD.out]
        dsimp only
        rw [Int.toNat_natCast]
      · have HNK := hide (show ∀ j e, j < k + 1 → t.pl[j]? = some e → e.1 ≠ (at_ : Int) from fun j e hj he => by
          rcases Nat.lt_or_ge j k with h1 | h1
          · exact HK.out j e h1 he
          · obtain rfl : j = k := by omega
            rw [List.getElem?_eq_getElem hkl, hpe] at he
            injection he with he
            rw [← he]; exact heq)
        have t1 : (pa == (at_ : Int)) = false := by simp [heq]
        have t2 : decide (pa = (at_ : Int)) = false := by simp [heq]
        have HS := hide hS
        rw [hga] at y1
        clear hS hk1 hk2 hgl hga e1 e2 hpe hkl hkl2
        go_wp2_with fail
        go_roundw
        case rel => exact ⟨k + 1, by omega, by go_num, HNK.out, HS.out⟩
        case measure => simp [intOf]; omega
    · obtain rfl : k = l := by omega
      have hf : t.y.find (at_ : Int) = none := find_not (by show ∀ j e, j < t.pl.length → _; rw [HL.out]; exact HK.out)
      have HFD := hide hf
      have HS := hide hS
      clear hS hf
      go_wp2_with fail
      go_ret
      refine ⟨by rw [HFD.out]; rfl, t, ?_, HS.out⟩
      unfold FyA.giveO
      rw [HFD.out]
end Go.Proofs.Ytjphckfbbiehdaa
