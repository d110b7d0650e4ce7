/- Marks: what a marker does, by invariants; the plain part. Marks: marker.visit. Marks: marker.drain. -/
import Derived.Test.YtpbafmdebflbpaaGMarkTells13
import Derived.Test.YtpbafmdebflbpaaGMarkTells15
import Derived.Test.YtpbafmdebflbpaaGMarkTells16
import Derived.Test.YtpbafmdebflbpaaGMarkTells14
import Derived.Deep.LoopGhost
import Derived.Deep.DeepCutAuto
import Derived.Deep.RegionLaw
import Derived.Test.YtpbafmdebflbpaaGMarkTells1
set_option linter.unusedSimpArgs false
set_option linter.unusedVariables false
namespace Go.Proofs.Ytpbafmdebflbpaa
open Go.RowKit

structure MSt where
  S : Nat → Bool
  st : List Nat
  lost : Bool
def vis (pre : List (Nat × Nat)) (R : Nat) (σ : MSt) (x : Int) : MSt :=
  if unR x = true ∧ σ.S (ixOf pre (unA x)) = false then
    if σ.st.length = R then ⟨addS σ.S (ixOf pre (unA x)) true, σ.st, true⟩ else ⟨addS σ.S (ixOf pre (unA x)) true, σ.st ++ [ixOf pre (unA x)], σ.lost⟩
  else σ
def unm : Nat → (Nat → Bool) → Nat
  | 0, _ => 0
  | n + 1, S => unm n S + if S n = true then 0 else 1
theorem unm_congr {S T : Nat → Bool} : ∀ {n : Nat}, (∀ i, i < n → S i = T i) → unm n S = unm n T
  | 0, _ => rfl
  | n + 1, h => by unfold unm; rw [unm_congr (n := n) (fun i hi => h i (by omega)), h n (by omega)]
theorem unm_add {S : Nat → Bool} {r : Nat} (hr : S r = false) : ∀ {n : Nat}, r < n → unm n (addS S r true) + 1 = unm n S
  | 0, h => by omega
  | n + 1, h => by
    unfold unm
    by_cases e : r = n
    · subst e
      rw [unm_congr (S := addS S r true) (T := S) (fun i hi => by unfold addS; rw [if_neg (by omega)]), hr]
      simp [addS]
    · have := unm_add hr (n := n) (by omega)
      rw [show addS S r true n = S n from by unfold addS; rw [if_neg (fun h => e h.symm)]]
      omega
def Clo (ws : List Int) (pre : List (Nat × Nat)) (S : Nat → Bool) (i : Nat) : Prop := ∀ x ∈ fldN ws pre i, unR x = true → S (ixOf pre (unA x)) = true
structure MOk (ws : List Int) (pre : List (Nat × Nat)) (gs : List (List Val)) (vs : List Val) (R : Nat) (X : Nat → Prop) (σ : MSt) : Prop where
  sound : ∀ i, i < pre.length → σ.S i = true → ∃ k, Lev gs vs k (i : Int)
  stk : ∀ i ∈ σ.st, i < pre.length ∧ σ.S i = true
  room : σ.st.length ≤ R
  clo : σ.lost = false → ∀ i, i < pre.length → σ.S i = true → X i → i ∈ σ.st ∨ Clo ws pre σ.S i
structure Gro (n : Nat) (σ τ : MSt) : Prop where
  mono : ∀ i, σ.S i = true → τ.S i = true
  meas : 2 * unm n τ.S + τ.st.length ≤ 2 * unm n σ.S + σ.st.length
  unm_ : unm n τ.S ≤ unm n σ.S
  lost : τ.lost = true → σ.lost = true ∨ unm n τ.S < unm n σ.S
theorem Gro.refl (n : Nat) (σ : MSt) : Gro n σ σ := ⟨fun _ h => h, Nat.le_refl _, Nat.le_refl _, fun h => .inl h⟩
theorem Gro.trans {n : Nat} {a b c : MSt} (h : Gro n a b) (k : Gro n b c) : Gro n a c := ⟨fun i hi => k.mono i (h.mono i hi), by have := h.meas; have := k.meas; omega, by have := h.unm_; have := k.unm_; omega, fun hc => by
  have h1 := h.unm_
  have h2 := k.unm_
  rcases k.lost hc with h3 | h3
  · rcases h.lost h3 with h4 | h4
    · exact .inl h4
    · exact .inr (by omega)
  · exact .inr (by omega)⟩
section
variable {ws : List Int} {pre : List (Nat × Nat)} {gs : List (List Val)} {vs : List Val} {R : Nat} {X : Nat → Prop} {σ τ : MSt} {x : Int}
theorem Clo.mono {S T : Nat → Bool} {i : Nat} (h : Clo ws pre S i) (hm : ∀ i, S i = true → T i = true) : Clo ws pre T i := fun x hx hr => hm _ (h x hx hr)
theorem vis_no (h : unR x = false ∨ σ.S (ixOf pre (unA x)) = true) : vis pre R σ x = σ := by
  unfold vis
  rw [if_neg]
  rintro ⟨h1, h2⟩
  rcases h with h | h
  · rw [h] at h1; cases h1
  · rw [h] at h2; cases h2
theorem vis_full (h1 : unR x = true) (h2 : σ.S (ixOf pre (unA x)) = false) (h3 : σ.st.length = R) : vis pre R σ x = ⟨addS σ.S (ixOf pre (unA x)) true, σ.st, true⟩ := by
  unfold vis; rw [if_pos ⟨h1, h2⟩, if_pos h3]
theorem vis_push (h1 : unR x = true) (h2 : σ.S (ixOf pre (unA x)) = false) (h3 : σ.st.length ≠ R) : vis pre R σ x = ⟨addS σ.S (ixOf pre (unA x)) true, σ.st ++ [ixOf pre (unA x)], σ.lost⟩ := by
  unfold vis; rw [if_pos ⟨h1, h2⟩, if_neg h3]
theorem addS_mono (S : Nat → Bool) (r i : Nat) (h : S i = true) : addS S r true i = true := by unfold addS; split <;> simp [h]
theorem addS_self (S : Nat → Bool) (r : Nat) (b : Bool) : addS S r b r = b := by unfold addS; rw [if_pos rfl]
theorem addS_or {S : Nat → Bool} {r i : Nat} (h : addS S r true i = true) : i = r ∨ S i = true := by
  unfold addS at h
  split at h
  · exact .inl (by assumption)
  · exact .inr h
theorem MOk.vis (h : MOk ws pre gs vs R X σ) (hx : GoodW pre x) (hl : unR x = true → ∃ k, Lev gs vs k (ixOf pre (unA x) : Int)) : MOk ws pre gs vs R X (vis pre R σ x) ∧ Gro pre.length σ (vis pre R σ x) ∧ (unR x = true → (Go.Proofs.Ytpbafmdebflbpaa.vis pre R σ x).S (ixOf pre (unA x)) = true) := by
  cases hr : unR x with
  | false => rw [vis_no (.inl hr)]; exact ⟨h, .refl _ _, fun h => by cases h⟩
  | true =>
    have hlt := (hx.ref hr).2.2.2.2
    cases hs : σ.S (ixOf pre (unA x)) with
    | true => rw [vis_no (.inr hs)]; exact ⟨h, .refl _ _, fun _ => hs⟩
    | false =>
      have hu := unm_add hs hlt
      by_cases hf : σ.st.length = R
      · rw [vis_full hr hs hf]
        refine ⟨⟨fun i hi h1 => ?_, fun i hi => ⟨(h.stk i hi).1, addS_mono _ _ _ (h.stk i hi).2⟩, h.room, fun h1 => by cases h1⟩, ⟨addS_mono _ _, by dsimp only; omega, by dsimp only; omega, fun _ => .inr (by dsimp only; omega)⟩, fun _ => addS_self _ _ _⟩
        rcases addS_or h1 with rfl | h2
        · exact hl hr
        · exact h.sound i hi h2
      · rw [vis_push hr hs hf]
        have hroom := h.room
        refine ⟨⟨fun i hi h1 => ?_, fun i hi => ?_, by simp; omega, fun h1 i hi h2 hX => ?_⟩, ⟨addS_mono _ _, by simp; omega, by dsimp only; omega, fun h => .inl h⟩, fun _ => addS_self _ _ _⟩
        · rcases addS_or h1 with rfl | h2
          · exact hl hr
          · exact h.sound i hi h2
        · rcases List.mem_append.1 hi with h1 | h1
          · exact ⟨(h.stk i h1).1, addS_mono _ _ _ (h.stk i h1).2⟩
          · simp at h1; subst h1; exact ⟨hlt, addS_self _ _ _⟩
        · rcases addS_or h2 with rfl | h3
          · exact .inl (by simp)
          · rcases h.clo h1 i hi h3 hX with h4 | h4
            · exact .inl (by simp [h4])
            · exact .inr (h4.mono (addS_mono _ _))
/-- An object is taken from the stack. -/
theorem MOk.pop (h : MOk ws pre gs vs R X σ) (i : Nat) (st : List Nat) (e : σ.st = st ++ [i]) : MOk ws pre gs vs R (fun j => X j ∧ j ≠ i) ⟨σ.S, st, σ.lost⟩ := by
  refine ⟨h.sound, fun j hj => h.stk j (by rw [e]; simp [hj]), by have := h.room; rw [e] at this; simp at this; dsimp only; omega, fun h1 j hj h2 hX => ?_⟩
  rcases h.clo h1 j hj h2 hX.1 with h3 | h3
  · rw [e] at h3
    rcases List.mem_append.1 h3 with h4 | h4
    · exact .inl h4
    · simp at h4; exact absurd h4 hX.2
  · exact .inr h3
/-- All its fields are gone through. -/
theorem MOk.done {i : Nat} (h : MOk ws pre gs vs R (fun j => X j ∧ j ≠ i) σ) (hc : Clo ws pre σ.S i) : MOk ws pre gs vs R X σ :=
  ⟨h.sound, h.stk, h.room, fun h1 j hj h2 hX => by
    by_cases e : j = i
    · subst e; exact .inr hc
    · exact h.clo h1 j hj h2 ⟨hX, e⟩⟩
theorem MOk.weak {Y : Nat → Prop} (h : MOk ws pre gs vs R X σ) (hy : ∀ i, i < pre.length → σ.S i = true → Y i → X i) : MOk ws pre gs vs R Y σ :=
  ⟨h.sound, h.stk, h.room, fun h1 j hj h2 hX => h.clo h1 j hj h2 (hy j hj h2 hX)⟩
theorem MOk.start (ws : List Int) (pre : List (Nat × Nat)) (gs : List (List Val)) (vs : List Val) (R : Nat) (X : Nat → Prop) : MOk ws pre gs vs R X ⟨fun _ => false, [], false⟩ :=
  ⟨fun i _ h => (by cases h), by simp, by simp, fun _ i _ h => (by cases h)⟩
theorem MOk.again (h : MOk ws pre gs vs R X σ) (he : σ.st = []) : MOk ws pre gs vs R (fun i => i < 0) ⟨σ.S, [], false⟩ :=
  ⟨h.sound, by simp, by simp, fun _ j _ _ hX => absurd hX (by omega)⟩
end

/-- In the end what is marked is what can be come to. -/
theorem marks_reach {nW : Nat} {ws : List Int} {rs : List Int} {R : Nat} {σ : MSt} (hgr : ∀ x ∈ rs, GoodW (parse nW ws 0).1 x) (hgf : ∀ x ∈ fieldsOf ws (parse nW ws 0).1, GoodW (parse nW ws 0).1 x)
    (h : MOk ws (parse nW ws 0).1 (graphOf ws (parse nW ws 0).1) (rs.map (turnW (ixOf (parse nW ws 0).1))) R (fun _ => True) σ) (hl : σ.lost = false) (he : σ.st = []) (hr : ∀ x ∈ rs, unR x = true → σ.S (ixOf (parse nW ws 0).1 (unA x)) = true) (i : Nat) (hi : i < (parse nW ws 0).1.length) :
    σ.S i = decide ((i : Int) ∈ reachR (graphOf ws (parse nW ws 0).1) (rs.map (turnW (ixOf (parse nW ws 0).1)))) := by
  have hgl : (graphOf ws (parse nW ws 0).1).length = (parse nW ws 0).1.length := by unfold graphOf; rw [List.length_map]
  have hvg : ∀ fs ∈ graphOf ws (parse nW ws 0).1, ValsOk (graphOf ws (parse nW ws 0).1).length fs := by
    rw [hgl]
    intro fs hfs
    obtain ⟨p, hp, rfl⟩ := List.mem_map.1 hfs
    exact good_vals fun x hx => hgf x (List.mem_flatMap.2 ⟨p, hp, hx⟩)
  have hvr : ValsOk (graphOf ws (parse nW ws 0).1).length (rs.map (turnW (ixOf (parse nW ws 0).1))) := by rw [hgl]; exact good_vals hgr
  have key : ∀ (k : Nat) (z : Int), Lev (graphOf ws (parse nW ws 0).1) (rs.map (turnW (ixOf (parse nW ws 0).1))) k z → 0 ≤ z ∧ z < ((parse nW ws 0).1.length : Int) ∧ σ.S z.toNat = true := by
    intro k z hz
    induction hz with
    | root z hz =>
      obtain ⟨x, hx, hxz⟩ := List.mem_map.1 hz
      have hu : unR x = true := by have := congrArg Prod.fst hxz; exact this
      have hzz : (ixOf (parse nW ws 0).1 (unA x) : Int) = z := by
        have := congrArg Prod.snd hxz
        unfold turnW at this
        rw [hu] at this
        simpa using this
      have hlt := ((hgr x hx).ref hu).2.2.2.2
      refine ⟨by omega, by omega, ?_⟩
      rw [← hzz]
      exact hr x hx hu
    | step k y z hy hz ih =>
      obtain ⟨i1, i2, i3⟩ := ih
      rw [fieldsI_graph i1 i2] at hz
      obtain ⟨x, hx, hxz⟩ := List.mem_map.1 hz
      have hu : unR x = true := by have := congrArg Prod.fst hxz; exact this
      have hzz : (ixOf (parse nW ws 0).1 (unA x) : Int) = z := by
        have := congrArg Prod.snd hxz
        unfold turnW at this
        rw [hu] at this
        simpa using this
      have hil : y.toNat < (parse nW ws 0).1.length := by omega
      have hxf : x ∈ fldN ws (parse nW ws 0).1 y.toNat := hx
      have hx2 : GoodW (parse nW ws 0).1 x := hgf x (List.mem_flatMap.2 ⟨(parse nW ws 0).1[y.toNat], List.getElem_mem hil, by
        have e : (parse nW ws 0).1.getD y.toNat (0, 0) = (parse nW ws 0).1[y.toNat] := by rw [List.getD_eq_getElem?_getD, List.getElem?_eq_getElem hil]; rfl
        rw [← e]; exact hx⟩)
      have hlt := (hx2.ref hu).2.2.2.2
      refine ⟨by omega, by omega, ?_⟩
      rw [← hzz]
      rcases h.clo hl y.toNat hil i3 trivial with h4 | h4
      · rw [he] at h4; simp at h4
      · exact h4 x hxf hu
  have hm := mem_reachR hvg hvr (i : Int)
  cases hs : σ.S i with
  | true =>
    symm
    rw [decide_eq_true_eq, hm]
    exact h.sound i hi hs
  | false =>
    symm
    rw [decide_eq_false_iff_not, hm]
    rintro ⟨k, hk⟩
    have := (key k _ hk).2.2
    rw [show ((i : Int)).toNat = i from by omega, hs] at this
    cases this

end Go.Proofs.Ytpbafmdebflbpaa

namespace Go.Proofs.Ytpbafmdebflbpaa
open Go.RowKit

def MkI (m : Nat) (ws : List Int) (pre : List (Nat × Nat)) (R : Nat) (Aw Ar As : Option Addr) (nw cw nr cr cs : Nat) (σ : MSt) : List Item :=
  [rowI 24 1 Aw nw cw (u64s (mkW ws pre σ.S)), rowI 3 1 As σ.st.length cs (ints (σ.st.map fun i => (plcN pre i : Int))), blkI m 152 #[.slice Aw nw cw, .slice Ar nr cr, .slice As σ.st.length cs, .int .i64 R, .bool σ.lost]]

set_option maxRecDepth 100000 in
set_option maxHeartbeats 8000000 in
theorem visit_any (w : World) (m R : Nat) (ws : List Int) (Aw Ar As : Option Addr) (nw cw nr cr cs : Nat) (σ : MSt) (x : Int) (hs : (allI (MkI m ws (parse nw ws 0).1 R Aw Ar As nw cw nr cr cs σ)).P w) (hok : ArnOk nw ws) (hx : GoodW (parse nw ws 0).1 x) (hR : R ≤ 64) (hst : σ.st.length ≤ R) :
    Calls Try.prog 88 #[.pointer (some ⟨m, 0, none⟩), .int .u64 x] w fun e w' => ∃ As' cs', (∃ v, e = .returned v) ∧
      Sep (allI (MkI m ws (parse nw ws 0).1 R Aw Ar As nw cw nr cr cs σ)).fp w w' [allI (MkI m ws (parse nw ws 0).1 R Aw Ar As' nw cw nr cr cs' (vis (parse nw ws 0).1 R σ x))] := by
  cases hr : unR x with
  | false =>
    have C := hide (ref_num w x hx.lo hx.hi (hx.num hr))
    rw [vis_no (.inl hr)]
    have HS := hide (Sep.start hs)
    clear hs hok hx hr
    go_enter Try.func88, Try.ntmps88
    go_wp2_with fail
    refine C.out.mono ?_
    rintro e w1 ⟨rfl, rfl⟩
    go_wp2_with fail
    refine bodyPost_ret (results_none rfl _ _ _) rfl ?_
    exact ⟨As, cs, ⟨_, rfl⟩, HS.out⟩
  | true =>
    obtain ⟨r1, r2, r3, r4, r5⟩ := hx.ref hr
    obtain ⟨r, hrr⟩ : ∃ r, ixOf (parse nw ws 0).1 (unA x) = r := ⟨_, rfl⟩
    have r6 : (plcN (parse nw ws 0).1 r : Int) = x / 2 := by rw [← hrr, ← r4]; unfold plcN plc; simp
    rw [hrr] at r5
    have C0 := hide (ref_ref w x hx.lo (by omega) r1)
    rw [← r6] at C0
    obtain ⟨o1, o2, o3, o4, o5, o6, o7⟩ := hok.obj r5
    have hn := hok.max
    have HHEAD := hide (hok.head r5 σ.S)
    have HSET := hide (hok.set r5 σ.S true)
    have hlen := hok.length σ.S
    obtain ⟨F, hF⟩ : ∃ F, (allI (MkI m ws (parse nw ws 0).1 R Aw Ar As nw cw nr cr cs σ)).fp = F := ⟨_, rfl⟩
    have hS := (Sep.start hs).flat
    rw [hF] at hS ⊢
    have MB := mark_bits (len := (lenN (parse nw ws 0).1 r : Int)) (a := ageN ws (parse nw ws 0).1 r) (by omega) (by omega) o6 o7 (σ.S r)
    obtain ⟨pre, hpre⟩ : ∃ pre, (parse nw ws 0).1 = pre := ⟨_, rfl⟩
    rw [hpre] at hrr C0 o1 HHEAD HSET hlen hS MB ⊢
    have VN := hide (fun h => vis_no (pre := pre) (R := R) (σ := σ) (x := x) (.inr h))
    have VF := hide (fun h2 h3 => vis_full (pre := pre) (R := R) (σ := σ) (x := x) hr h2 h3)
    have VP := hide (fun h2 h3 => vis_push (pre := pre) (R := R) (σ := σ) (x := x) hr h2 h3)
    rw [hrr] at VN VF VP
    obtain ⟨hw, hhw⟩ : ∃ hw, headW (lenN pre r : Int) (σ.S r) (ageN ws pre r) = hw := ⟨_, rfl⟩
    obtain ⟨hv, hhv⟩ : ∃ hv, headW (lenN pre r : Int) true (ageN ws pre r) = hv := ⟨_, rfl⟩
    rw [hhw] at HHEAD MB
    rw [hhv] at HSET MB
    obtain ⟨MB1, _, MB3⟩ := MB
    have hrow : w.ownsRow 0 24 1 (.slice Aw nw cw) nw (u64s (mkW ws pre σ.S)) := hS.get 0 rfl
    obtain ⟨g, rfl⟩ := own_addr hrow (by omega)
    obtain ⟨at_, hat⟩ : ∃ at_, plcN pre r = at_ := ⟨_, rfl⟩
    rw [hat] at HHEAD HSET C0 o1
    have e0 : w.cell? ⟨g, at_, none⟩ = some (.int .u64 hw) := by
      rw [hrow.cellAt at_ (by omega), u64s_get, HHEAD.out]; rfl
    have e1 := hrow.frozenAt at_
    obtain ⟨b1, b2, b3, b4⟩ := hS.rules 2 (g := m) (t := 152) rfl
    have b5 : w.cell? ⟨m, 0, none⟩ = some (.slice (some ⟨g, 0, none⟩) nw cw) := by rw [b1]; rfl
    have b6 : w.cell? ⟨m, 1 + 1, none⟩ = some (.slice As σ.st.length cs) := by rw [b1]; rfl
    have HS := hide hS
    cases hsr : σ.S r with
    | true =>
      rw [hsr, if_pos rfl] at MB3
      have CB := hide (bit_any w hw 256 MB3)
      rw [VN.out hsr]
      clear hS b1 b4 hrow hlen MB1 MB3 hok hx hF hpre hhw hhv hsr hs r1 r2 r3 r4 r6 hr hrr o2 o3 o4 o5 o6 o7 b6 b2
      go_enter Try.func88, Try.ntmps88
      go_wp2_with fail
      refine C0.out.mono ?_
      rintro e w1 ⟨rfl, rfl⟩
      go_wp2_with fail
      refine CB.out.mono ?_
      rintro e w1 ⟨rfl, rfl⟩
      go_wp2_with fail
      refine bodyPost_ret (results_none rfl _ _ _) rfl ?_
      exact ⟨As, cs, ⟨_, rfl⟩, HS.out.fold⟩
    | false =>
      rw [hsr] at MB3
      simp only [Bool.false_eq_true, if_false] at MB3
      have CB := hide (bit_any w hw 0 MB3)
      have CS := hide (fun w' => set_on w' hw hv MB1)
      have hS2 := (HS.out.store 0 (g := g) (e := 24) (size := 1) (n := nw) (c := cw) (xs := u64s (mkW ws pre σ.S)) rfl at_ (.int .u64 hv))
      rw [u64s_set, HSET.out] at hS2
      have HS2 := hide hS2
      obtain ⟨c1, c2, c3, c4⟩ := hS2.rules 2 (g := m) (t := 152) rfl
      have c5 : (w.setCell ⟨g, at_, none⟩ (.int .u64 hv)).cell? ⟨m, 2, none⟩ = some (.slice As σ.st.length cs) := by rw [c1]; rfl
      have c6 : (w.setCell ⟨g, at_, none⟩ (.int .u64 hv)).cell? ⟨m, 3, none⟩ = some (.int .i64 R) := by rw [c1]; rfl
      have c7 : (w.setCell ⟨g, at_, none⟩ (.int .u64 hv)).cell? ⟨m, 4, none⟩ = some (.bool σ.lost) := by rw [c1]; rfl
      have HVF := hide (VF.out hsr)
      have HVP := hide (VP.out hsr)
      clear hS b1 b4 hrow hlen MB1 MB3 hok hx hF hpre hhw hhv hsr hs r1 r2 r3 r4 r6 hr hrr o2 o3 o4 o5 o6 o7 hS2 VN VF VP HSET c1 c4
      go_enter Try.func88, Try.ntmps88
      go_wp2_with fail
      refine C0.out.mono ?_
      rintro e w1 ⟨rfl, rfl⟩
      go_wp2_with fail
      refine CB.out.mono ?_
      rintro e w1 ⟨rfl, rfl⟩
      go_wp2_with fail
      go_region_law (first
        | (try go_simp
           go_at_call 111
           refine (CS.out _).mono ?_
           rintro e w1 ⟨rfl, rfl⟩))
      all_goals
        by_cases hf : σ.st.length = R
        · have k1 : ((σ.st.length : Int) == (R : Int)) = true := by simp [hf]
          have k2 : (σ.st.length == R) = true := by simp [hf]
          have HVF2 := hide (HVF.out hf)
          clear hf HVF HVP
          go_wp2_with fail
          try go_quiet (fail)
          go_wp2_with fail
          refine bodyPost_ret (results_none rfl _ _ _) rfl ?_
          rw [HVF2.out]
          refine ⟨As, cs, ⟨_, rfl⟩, ?_⟩
          first
            | exact (HS2.out.set_ 2 (g := m) (t := 152) rfl 4 (.bool true)).fold
            | exact ((HS2.out.set_ 2 (g := m) (t := 152) rfl 4 (.bool true)).drewN _).fold
            | exact ((HS2.out.set_ 2 (g := m) (t := 152) rfl 4 (.bool true)).drew).fold
            | trace_state
        · have k1 : ((σ.st.length : Int) == (R : Int)) = false := by rw [beq_eq_false_iff_ne]; omega
          have k2 : (σ.st.length == R) = false := by rw [beq_eq_false_iff_ne]; omega
          have HVP2 := hide (HVP.out hf)
          obtain ⟨sl, hsl⟩ : ∃ sl, σ.st.length = sl := ⟨_, rfl⟩
          have HSL := hide hsl
          have hS3 := HS2.out
          unfold MkI at hS3
          rw [hsl] at hS3 k1 k2 c5 hst
          have HS3 := hide hS3
          clear hf HVF HVP HS2 hS3 hsl
          go_wp2_with fail
          try go_quiet (fail)
          go_wp2_with (first
            | (at_builtin
               refine wpList_app1 (cs := #[.int .i64 at_]) rfl (.tmp 57) (.tmp 59) 40 rfl sInt (HS3.out.drewN _) 1 (n := sl) rfl rfl rfl (by first | (simp; done) | (rw [World.drewN_heap]; simp)) rfl rfl (by omega) ?_
               intro A4 c4 w4 hS4 hC4
               obtain ⟨z1, z2, z3, z4⟩ := hS4.rules 2 (g := m) (t := 152) rfl
               (have z5 : w4.cell? ⟨m, 2, none⟩ = some (.slice As sl cs) := by rw [z1]; rfl)
               clear z1))
          go_end0
          rw [HVP2.out]
          have hS5 := (hS4.set_ 2 (g := m) (t := 152) rfl 2 (.slice A4 (sl + 1) c4)).fold
          have e1 : (σ.st ++ [r]).length = sl + 1 := by rw [List.length_append, HSL.out]; rfl
          have e2 : ints ((σ.st ++ [r]).map fun i => (plcN pre i : Int)) = ints (σ.st.map fun i => (plcN pre i : Int)) ++ [.int .i64 (at_ : Int)] := by rw [List.map_append]; simp [ints, hat]
          unfold MkI
          dsimp only
          rw [e1, e2]
          first
            | exact ⟨⟨_, rfl⟩, A4, c4, hS5⟩
            | exact ⟨A4, c4, ⟨_, rfl⟩, hS5⟩
end Go.Proofs.Ytpbafmdebflbpaa

namespace Go.Proofs.Ytpbafmdebflbpaa
open Go.RowKit

theorem ints_take_ (l : List Int) (k : Nat) : (ints l).take k = ints (l.take k) := by unfold ints; rw [List.map_take]
theorem fld_good {nW : Nat} {ws : List Int} (h : ∀ x ∈ fieldsOf ws (parse nW ws 0).1, GoodW (parse nW ws 0).1 x) (i : Nat) (hi : i < (parse nW ws 0).1.length) : ∀ x ∈ fldN ws (parse nW ws 0).1 i, GoodW (parse nW ws 0).1 x := by
  intro x hx
  refine h x (List.mem_flatMap.2 ⟨(parse nW ws 0).1[i], List.getElem_mem hi, ?_⟩)
  have e : (parse nW ws 0).1.getD i (0, 0) = (parse nW ws 0).1[i] := by rw [List.getD_eq_getElem?_getD, List.getElem?_eq_getElem hi]; rfl
  unfold fldN plcN lenN at hx
  rw [e] at hx
  exact hx
/-- What is led to from what can be come to. -/
def LevN (ws : List Int) (pre : List (Nat × Nat)) (gs : List (List Val)) (vs : List Val) : Prop := ∀ i, i < pre.length → (∃ k, Lev gs vs k (i : Int)) → ∀ x ∈ fldN ws pre i, unR x = true → ∃ k, Lev gs vs k (ixOf pre (unA x) : Int)
theorem levN_arn {nW : Nat} {ws : List Int} (vs : List Val) : LevN ws (parse nW ws 0).1 (graphOf ws (parse nW ws 0).1) vs := by
  rintro i hi ⟨k, hk⟩ x hx hr
  refine ⟨k + 1, .step _ _ _ hk ?_⟩
  rw [fieldsI_graph (by omega) (by omega)]
  refine List.mem_map.2 ⟨x, hx, ?_⟩
  unfold turnW
  rw [hr]
  rfl
/-- What a marker has marked on its way, in the midst of an object. -/
structure MIn (ws : List Int) (pre : List (Nat × Nat)) (gs : List (List Val)) (vs : List Val) (R : Nat) (X : Nat → Prop) (σ τ : MSt) (xs : List Int) (j : Nat) : Prop where
  ok : MOk ws pre gs vs R X τ
  gro : Gro pre.length σ τ
  seen : ∀ x ∈ xs.take j, unR x = true → τ.S (ixOf pre (unA x)) = true
theorem MIn.next {ws : List Int} {pre : List (Nat × Nat)} {gs : List (List Val)} {vs : List Val} {R : Nat} {X : Nat → Prop} {σ τ : MSt} {xs : List Int} {j : Nat} (h : MIn ws pre gs vs R X σ τ xs j) {x : Int} (e : xs.take (j + 1) = xs.take j ++ [x]) (hx : GoodW pre x) (hl : unR x = true → ∃ k, Lev gs vs k (ixOf pre (unA x) : Int)) : MIn ws pre gs vs R X σ (vis pre R τ x) xs (j + 1) := by
  obtain ⟨h1, h2, h3⟩ := h.ok.vis hx hl
  refine ⟨h1, h.gro.trans h2, fun y hy hr => ?_⟩
  rw [e] at hy
  rcases List.mem_append.1 hy with h4 | h4
  · exact h2.mono _ (h.seen y h4 hr)
  · simp at h4; subst h4; exact h3 hr
theorem MIn.go {ws : List Int} {pre : List (Nat × Nat)} {gs : List (List Val)} {vs : List Val} {R : Nat} {X : Nat → Prop} {σ τ υ : MSt} {xs : List Int} {j : Nat} (h : MIn ws pre gs vs R X σ τ xs j) (h1 : MOk ws pre gs vs R X υ) (h2 : Gro pre.length τ υ) : MIn ws pre gs vs R X σ υ xs j :=
  ⟨h1, h.gro.trans h2, fun x hx hr => h2.mono _ (h.seen x hx hr)⟩

set_option maxRecDepth 100000 in
set_option maxHeartbeats 16000000 in
theorem drain_any (w : World) (m R : Nat) (ws : List Int) (Aw Ar As : Option Addr) (nw cw nr cr cs : Nat) (gs : List (List Val)) (vs : List Val) (X : Nat → Prop) (σ : MSt) (hs : (allI (MkI m ws (parse nw ws 0).1 R Aw Ar As nw cw nr cr cs σ)).P w) (hok : ArnOk nw ws) (hg : ∀ x ∈ fieldsOf ws (parse nw ws 0).1, GoodW (parse nw ws 0).1 x) (hR : R ≤ 64)
    (hM : MOk ws (parse nw ws 0).1 gs vs R X σ) (hL : LevN ws (parse nw ws 0).1 gs vs) :
    Calls Try.prog 89 #[.pointer (some ⟨m, 0, none⟩)] w fun e w' => ∃ τ As' cs', (∃ v, e = .returned v) ∧ MOk ws (parse nw ws 0).1 gs vs R X τ ∧ Gro (parse nw ws 0).1.length σ τ ∧ τ.st = [] ∧
      Sep (allI (MkI m ws (parse nw ws 0).1 R Aw Ar As nw cw nr cr cs σ)).fp w w' [allI (MkI m ws (parse nw ws 0).1 R Aw Ar As' nw cw nr cr cs' τ)] := by
  obtain ⟨F, hF⟩ : ∃ F, (allI (MkI m ws (parse nw ws 0).1 R Aw Ar As nw cw nr cr cs σ)).fp = F := ⟨_, rfl⟩
  have hS0 := Sep.start hs
  rw [hF] at hS0 ⊢
  have HS0 := hide hS0
  have HM := hide hM
  have HL := hide hL
  have HG := hide (fld_good hg)
  have HOBJ := hide (fun i hi => hok.obj (i := i) hi)
  have HFL := hide (fun i hi => hok.fld (i := i) hi)
  have HHEAD := hide (fun i hi S => hok.head (i := i) hi S)
  have HFIELD := hide (fun i j hi hj S => hok.field (i := i) (j := j) hi hj S)
  have HLEN := hide (fun S => hok.length S)
  have HOF := hide (fun i hi S => hok.ofRange (i := i) hi S)
  have hn := hok.max
  have VIS := hide (fun wr As cs τ x hs hx hst => visit_any wr m R ws Aw Ar As nw cw nr cr cs τ x hs hok hx hR hst)
  obtain ⟨pre, hpre⟩ : ∃ pre, (parse nw ws 0).1 = pre := ⟨_, rfl⟩
  rw [hpre] at HS0 HM HL HG HOBJ HFL HHEAD HFIELD HLEN HOF VIS ⊢
  clear hF hs hS0 hM hL hg hok hpre
  go_enter Try.func89, Try.ntmps89
  go_wp2_with fail
  go_loopg [2] (2 * unm pre.length σ.S + σ.st.length) (fun n p wr => ∃ (τ : MSt) (As' : Option Addr) (cs' : Nat), n = 2 * unm pre.length τ.S + τ.st.length ∧ Hid (MOk ws pre gs vs R X τ) ∧ Hid (Gro pre.length σ τ) ∧ Sep F w wr [allI (MkI m ws pre R Aw Ar As' nw cw nr cr cs' τ)])
  case atStart => exact ⟨σ, As, cs, rfl, HM, Gro.refl _ _, HS0.out⟩
  case round =>
    clear HS0 HM
    obtain ⟨τ, As', cs', hgk, HM, HGR, hS⟩ := hrel
    have hS' := hS.flat
    obtain ⟨b1, b2, b3, b4⟩ := hS'.rules 2 (g := m) (t := 152) rfl
    have b5 : wr.cell? ⟨m, 2, none⟩ = some (.slice As' τ.st.length cs') := by rw [b1]; rfl
    rcases List.eq_nil_or_concat τ.st with he | ⟨st0, i, he⟩
    · rw [he] at b5
      have HE := hide he
      clear b1 b4 hS' he hgk
      go_wp2_with fail
      go_end0
      exact ⟨τ, As', cs', ⟨_, rfl⟩, HM.out, HGR.out, HE.out, hS⟩
    · rw [List.concat_eq_append] at he
      obtain ⟨s1, s2⟩ := HM.out.stk i (by rw [he]; simp)
      obtain ⟨q, hq⟩ : ∃ q, st0.length = q := ⟨_, rfl⟩
      have hlen : τ.st.length = q + 1 := by rw [he, List.length_append, hq]; rfl
      have hq64 : q + 1 ≤ 64 := by have := HM.out.room; omega
      clear b5
      obtain ⟨q1, hq1⟩ : ∃ q1, q + 1 = q1 := ⟨_, rfl⟩
      rw [hq1] at hlen hq64
      have hS1 : Sep F w wr [rowI 24 1 Aw nw cw (u64s (mkW ws pre τ.S)), rowI 3 1 As' q1 cs' (ints ((st0 ++ [i]).map fun i => (plcN pre i : Int))), blkI m 152 #[.slice Aw nw cw, .slice Ar nr cr, .slice As' q1 cs', .int .i64 R, .bool τ.lost]] := by
        have h := hS'
        unfold MkI at h
        rw [hlen, he] at h
        exact h
      have hrowS : wr.ownsRow 0 3 1 (.slice As' q1 cs') q1 (ints ((st0 ++ [i]).map fun i => (plcN pre i : Int))) := hS1.get 1 rfl
      obtain ⟨gS, hAs⟩ := own_addr hrowS (by omega)
      subst hAs
      obtain ⟨o1, o2, o3, o4, o5, o6, o7⟩ := HOBJ.out i s1
      have hrowW : wr.ownsRow 0 24 1 (.slice Aw nw cw) nw (u64s (mkW ws pre τ.S)) := hS1.get 0 rfl
      obtain ⟨g, hAw⟩ := own_addr hrowW (by omega)
      have hcw := own_cap hrowW
      have hcS := own_cap hrowS
      subst hAw
      have e0 : wr.cell? ⟨gS, q, none⟩ = some (.int .i64 (plcN pre i)) := by
        rw [hrowS.cellAt q (by omega)]; subst hq; simp [ints]
      have b5 : wr.cell? ⟨m, 2, none⟩ = some (.slice (some ⟨gS, 0, none⟩) q1 cs') := by rw [b1, hlen]; rfl
      have b6 : wr.cell? ⟨m, 0, none⟩ = some (.slice (some ⟨g, 0, none⟩) nw cw) := by rw [b1]; rfl
      have hS2 := fun nd => (((hS1.drewN nd).cutRow 1 (q := q) rfl (by omega)).set_ 2 (g := m) (t := 152) rfl 2 (.slice (some ⟨gS, 0, none⟩) q cs'))
      have hS2' : ∀ nd, Sep F w ((wr.drewN nd).setCell ⟨m, 2, none⟩ (.slice (some ⟨gS, 0, none⟩) q cs')) [rowI 24 1 (some ⟨g, 0, none⟩) nw cw (u64s (mkW ws pre τ.S)), rowI 3 1 (some ⟨gS, 0, none⟩) q cs' (ints (st0.map fun i => (plcN pre i : Int))), blkI m 152 #[.slice (some ⟨g, 0, none⟩) nw cw, .slice Ar nr cr, .slice (some ⟨gS, 0, none⟩) q cs', .int .i64 R, .bool τ.lost]] := fun nd => by
        have h := hS2 nd
        rw [ints_take_, Nat.mul_one, show ((st0 ++ [i]).map fun i => (plcN pre i : Int)).take q = st0.map fun i => (plcN pre i : Int) from by rw [List.map_append, List.take_append_of_le_length (by simp [hq]), List.take_of_length_le (by simp [hq])]] at h
        exact h
      have HS2 := hide hS2'
      have HM1 := hide (HM.out.pop i st0 he)
      have HSTL := hide (show st0.length ≤ τ.st.length by rw [he]; simp)
      obtain ⟨at_, hat⟩ : ∃ at_, plcN pre i = at_ := ⟨_, rfl⟩
      obtain ⟨len, hln⟩ : ∃ len, lenN pre i = len := ⟨_, rfl⟩
      have HHD := hide (HHEAD.out i s1 τ.S)
      have HRG := hide (HOF.out i s1 τ.S)
      rw [hat] at e0 o1 o4 HHD
      rw [hln] at o4 o5
      have H1 := hide (show 2 * unm pre.length τ.S + q < gk by rw [hgk, hlen]; omega)
      have W1 : IntKind.i64.wrap ((q1 : Int) - 1) = (q : Int) := by simp only [IntKind.wrap_i64]; omega
      have K1 : decide ((0 : Int) < (q1 : Int)) = true := by simp; omega
      have K2 : decide (0 < q1) = true := by simp; omega
      have hqq : q < q1 := by omega
      have hqc : q ≤ cs' := by omega
      have HQ := hide hq
      clear hS hS' hS1 hS2 hS2' b1 b4 hrowS hrowW hq he hlen HM hgk o2 o3 hq1
      go_wp2_with fail
      go_quiet (fail)
      go_wp2_with fail
      go_cut [2] (fun s2 wc => s2 = .int .i64 at_ ∧ Sep F w wc [rowI 24 1 (some ⟨g, 0, none⟩) nw cw (u64s (mkW ws pre τ.S)), rowI 3 1 (some ⟨gS, 0, none⟩) q cs' (ints (st0.map fun i => (plcN pre i : Int))), blkI m 152 #[.slice (some ⟨g, 0, none⟩) nw cw, .slice Ar nr cr, .slice (some ⟨gS, 0, none⟩) q cs', .int .i64 R, .bool τ.lost]])
      case first =>
        go_region_law (fail)
        all_goals
          go_wp2_with fail
          go_meet
          case rel =>
            first
              | exact ⟨rfl, HS2.out _⟩
              | exact ⟨rfl, (HS2.out _).drew⟩
              | exact ⟨rfl, (HS2.out _).drewN _⟩
              | exact ⟨rfl, HS2.out 0⟩
              | trace_state
      case rest =>
        obtain ⟨rfl, hS⟩ := hcut
        clear HS2 e0 b5 b6 W1 K1 K2 hqq hcS
        obtain ⟨b1, b2, b3, b4⟩ := hS.rules 2 (g := m) (t := 152) rfl
        have b6 : wc.cell? ⟨m, 0, none⟩ = some (.slice (some ⟨g, 0, none⟩) nw cw) := by rw [b1]; rfl
        have hrowW : wc.ownsRow 0 24 1 (.slice (some ⟨g, 0, none⟩) nw cw) nw (u64s (mkW ws pre τ.S)) := hS.get 0 rfl
        have f0 : wc.cell? ⟨g, at_, none⟩ = some (.int .u64 (headW (lenN pre i : Int) (τ.S i) (ageN ws pre i))) := by
          rw [hrowW.cellAt at_ (by omega), u64s_get, HHD.out]; rfl
        have hhp := head_parts_ (len := (lenN pre i : Int)) (a := ageN ws pre i) (by omega) (by omega) o6 o7 (τ.S i)
        have C := hide (fieldsAt_any wc g nw cw at_ len _ f0 ⟨hhp.2.2.2.2.1, hhp.2.2.2.2.2⟩ hn hcw.1 hcw.2 hhp.2.2.2.1 (by rw [hhp.1, hln]) o4)
        have HS := hide hS
        clear b1 b4 hS hrowW f0 hhp
        go_wp2_with fail
        refine C.out.mono ?_
        rintro e w5 ⟨Af, cf, rfl, hb5, hAf⟩
        have hS5 : Sep F w w5 [allI (MkI m ws pre R (some ⟨g, 0, none⟩) Ar (some ⟨gS, 0, none⟩) nw cw nr cr cs' ⟨τ.S, st0, τ.lost⟩)] := by
          have h := (HS.out.below hb5).fold
          unfold MkI
          dsimp only
          rw [HQ.out]
          exact h
        have HS5 := hide hS5
        have HFLi := hide ((HFL.out i s1).trans hln)
        clear C HS hb5 hS5 b2 b3 b6
        go_wp2_with fail
        go_loopw [45] (fun k wx => ∃ (j : Nat) (υ : MSt) (A2 : Option Addr) (c2 : Nat), j ≤ len ∧ k = .int .i64 j ∧ Hid (MIn ws pre gs vs R (fun j => X j ∧ j ≠ i) ⟨τ.S, st0, τ.lost⟩ υ (fldN ws pre i) j) ∧ Sep F w wx [allI (MkI m ws pre R (some ⟨g, 0, none⟩) Ar A2 nw cw nr cr c2 υ)]) (fun k _ => len - (intOf k).toNat)
        case atStart => exact ⟨0, _, _, _, by omega, rfl, ⟨HM1.out, Gro.refl _ _, by simp⟩, HS5.out⟩
        case round =>
          clear HS5
          obtain ⟨j, υ, A2, c2, hj, rfl, HIN, hS⟩ := hrel
          by_cases hlj : j < len
          · have hjl : j < (fldN ws pre i).length := by rw [HFLi.out]; exact hlj
            have hrowW : wr.ownsRow 0 24 1 (.slice (some ⟨g, 0, none⟩) nw cw) nw (u64s (mkW ws pre υ.S)) := hS.flat.get 0 rfl
            have hfd := HFIELD.out i j s1 (by omega) υ.S
            rw [hat, List.getElem?_eq_getElem hjl] at hfd
            have f0 : wr.cell? ⟨g, at_ + 1 + j, none⟩ = some (.int .u64 (fldN ws pre i)[j]) := by
              rw [hrowW.cellAt (at_ + 1 + j) (by omega), u64s_get, hfd]; rfl
            have HTK := hide (List.take_succ_eq_append_getElem hjl)
            have hmem := List.getElem_mem hjl
            have hgx := HG.out i s1 _ hmem
            have hlx := HL.out i s1 (HIN.out.ok.sound i s1 (HIN.out.gro.mono i s2)) _ hmem
            obtain ⟨x, hx⟩ : ∃ x, (fldN ws pre i)[j] = x := ⟨_, rfl⟩
            rw [hx] at f0 HTK hgx hlx
            have HIN2 := hide (HIN.out.next HTK.out hgx hlx)
            have C := hide (VIS.out wr A2 c2 υ x (hS.get 0 rfl) hgx HIN.out.ok.room)
            have hAf2 := hAf (by omega)
            subst hAf2
            have HS := hide hS
            clear hS hrowW hfd hmem hgx hlx hx HTK HIN hjl
            go_wp2_with fail
            refine C.out.mono ?_
            rintro e w6 ⟨A3, c3, ⟨v, rfl⟩, hP⟩
            have HS6 := hide (HS.out.call 0 rfl hP)
            clear hP HS C
            go_wp2_with fail
            go_roundw
            case rel => exact ⟨j + 1, _, A3, c3, by omega, by go_num, HIN2, HS6.out⟩
            case measure => simp [intOf]; omega
          · obtain rfl : j = len := by omega
            have HM3 := hide (HIN.out.ok.done (X := X) (fun x hx hr => HIN.out.seen x (by rw [List.take_of_length_le (by rw [HFLi.out]; omega)]; exact hx) hr))
            have hgro := HIN.out.gro
            have hms := hgro.meas
            dsimp only at hms
            rw [HQ.out] at hms
            have HGR2 := hide (Gro.trans ⟨HGR.out.mono, HGR.out.meas, HGR.out.unm_, HGR.out.lost⟩ (Gro.trans (b := ⟨τ.S, st0, τ.lost⟩) ⟨fun i h => h, by dsimp only; have := HSTL.out; omega, Nat.le_refl _, fun h => .inl h⟩ hgro))
            have H2 := hide (show 2 * unm pre.length υ.S + υ.st.length < gk by have := H1.out; omega)
            clear hgro hms HIN
            go_wp2_with fail
            go_roundg (2 * unm pre.length υ.S + υ.st.length)
            case measure => exact H2.out
            case rel => exact ⟨υ, A2, c2, rfl, HM3.out, HGR2.out, hS⟩
end Go.Proofs.Ytpbafmdebflbpaa
