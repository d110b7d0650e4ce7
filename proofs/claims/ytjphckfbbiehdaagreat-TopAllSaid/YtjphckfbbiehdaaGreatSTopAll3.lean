/- Part of a proof. -/
import Derived.Test.YtjphckfbbiehdaaGreatSTopAll2
set_option linter.unusedSimpArgs false
set_option linter.unusedVariables false
namespace Go.Proofs.YtjphckfbbiehdaaGreat
open Go.RowKit
structure DoV where
  k:Int
  to:Int
  fr:Int
  at_:Int
  n:Int
def DoV.cells (d:DoV):Array Value:=#[.int .i64 d.k,.int .i64 d.to,.int .i64 d.fr,.int .i64 d.at_,.int .i64 d.n]
def badR (x:Int):Bool:=decide (x < 0) || decide (8 ≤ x)
def wrongM (d:DoV):Int:=if d.k < 1 ∨ 7 < d.k then 5 else if (d.k ≠ 7 ∧ badR d.to=true) ∨ (d.k ≠ 1 ∧ d.k ≠ 2 ∧ badR d.fr=true) then 2 else if d.k=1 ∧ (d.n < 0 ∨ 4 < d.n) then 3 else if d.k=2 ∧ (d.n < -4611686018427387904 ∨ 4611686018427387903 < d.n) then 3 else 0
theorem badR_no {x:Int} (h:badR x=false):0 ≤ x ∧ x < 8:=by
  unfold badR at h
  simp at h
  omega
set_option maxHeartbeats 400000 in
theorem thereBad_any (w:World) (x:Int):Calls Tryz.prog 79 #[.int .i64 x] w fun e w' => e=.returned (.bool (badR x)) ∧ w'=w:=by
  unfold badR
  by_cases h1:x < 0
  · have t1:decide (x < 0)=true:=by simp [h1]
    clear h1
    go_enter Tryz.func79,Tryz.ntmps79
    go_wp2_with fail
    go_ret
    exact ⟨ret_bool (by rw [t1]; rfl),rfl⟩
  · have t1:decide (x < 0)=false:=by simp only [h1,decide_false]
    clear h1
    go_enter Tryz.func79,Tryz.ntmps79
    go_wp2_with fail
    go_ret
    exact ⟨ret_bool (by rw [t1]; rfl),rfl⟩
set_option maxHeartbeats 800000 in
theorem thereIndex_any (w:World) (A:Option Addr) (n c:Nat) (l:List Int) (hn:n ≤ 1000) (h:Rd w (fun _ => True) 1 A n (ints l)) :
    Calls Tryz.prog 85 #[.slice A n c,.func (.func 79) #[] #[]] w fun e w' => (∃ r:Int,e=.returned (.int .i64 r) ∧ (0 ≤ r ↔ ∃ x ∈ l,badR x=true)) ∧ w'=w:=by
  have HL:=hide (show l.length=n by have:=h.1; simpa using this)
  go_enter Tryz.func85,Tryz.ntmps85
  go_wp2_with fail
  go_loop [5,8] (fun _ i => ∃ k:Nat,k ≤ n ∧ i=.int .i64 k ∧ Hid (∀ t ∈ l.take k,badR t=false)) (fun _ i => n - (intOf i).toNat)
  case atStart => exact ⟨0,by omega,rfl,by simp [Hid]⟩
  case round =>
    obtain ⟨k,hk,rfl,hnot⟩:=hrel
    by_cases hlt:k < n
    · obtain ⟨ad,rfl,_,_,hc⟩:=h.at_ hlt
      have hkl:k < l.length:=by rw [HL.out]; exact hlt
      have hcell:=hc _ (by simp [ints,List.getElem?_eq_getElem hkl]:(ints l)[k]?=some (.int .i64 l[k]))
      have HM:=hide (List.getElem_mem hkl)
      have HT:=hide (List.take_succ_eq_append_getElem hkl)
      obtain ⟨x,hx⟩:∃ x,l[k]=x:=⟨_,rfl⟩
      rw [hx] at hcell HM HT
      clear hc hx
      go_wp2_with fail
      refine (thereBad_any _ x).mono ?_
      rintro e w1 ⟨rfl,rfl⟩
      cases hq:badR x with
      | true =>
        have HQ:=hide hq
        clear hq
        go_wp2_with fail
        go_ret
        exact ⟨⟨k,rfl,⟨fun _ => ⟨x,HM.out,HQ.out⟩,fun _ => by omega⟩⟩,rfl⟩
      | false =>
        have HQ:=hide hq
        clear hq
        go_wp2_with fail
        go_round
        case rel => exact ⟨k + 1,by omega,by go_num,by
          have h1:=hnot.out
          have h2:=HQ.out
          show ∀ t ∈ l.take (k + 1),badR t=false
          rw [HT.out]
          intro t ht
          rcases List.mem_append.1 ht with h3 | h3
          · exact h1 t h3
          · simp only [List.mem_singleton] at h3; subst h3; exact h2⟩
        case measure => simp [intOf]; omega
    · go_wp2_with fail
      go_ret
      have h1:=hnot.out
      rw [List.take_of_length_le (by rw [HL.out]; omega)] at h1
      exact ⟨⟨-1,rfl,⟨fun h => by omega,fun ⟨t,ht,htx⟩ => by rw [h1 t ht] at htx; cases htx⟩⟩,rfl⟩
theorem thereContains_any (w:World) (A:Option Addr) (n c:Nat) (l:List Int) (hn:n ≤ 1000) (h:Rd w (fun _ => True) 1 A n (ints l)) :
    Calls Tryz.prog 78 #[.slice A n c,.func (.func 79) #[] #[]] w fun e w' => e=.returned (.bool (l.any badR)) ∧ w'=w:=by
  go_enter Tryz.func78,Tryz.ntmps78
  go_wp2_with fail
  refine (thereIndex_any w A n c l hn h).mono ?_
  rintro e w1 ⟨⟨r,rfl,hr⟩,rfl⟩
  have HB:=hide (show l.any badR=decide (0 ≤ r) by
    rw [Bool.eq_iff_iff]; simp only [List.any_eq_true,decide_eq_true_eq]; exact hr.symm)
  clear hr
  go_wp2_with fail
  go_ret
  exact ⟨ret_bool HB.out.symm,rfl⟩
theorem there_any (w:World) (g:Nat) (x:Int) (b:Bool) (hx:badR x=b) (h:Blk w g 3 #[.int .i64 x]) :
    Calls Tryz.prog 59 #[.slice (some ⟨g,0,none⟩) 1 1] w fun e w' => e=.returned (.bool (!b)) ∧ w'=w:=by
  have hR:Rd w (fun _ => True) 1 (some ⟨g,0,none⟩) 1 (ints [x]):=⟨rfl,fun _ => ⟨_,rfl,trivial,Blk.lt h,fun j u hu => by
    cases j with
    | zero => simp [ints] at hu; subst hu; rw [show (⟨g,0,none⟩:Addr).add 0=⟨g,0,none⟩ from rfl]; exact (h.cell 0).trans rfl
    | succ j => simp [ints] at hu⟩⟩
  have C:=thereContains_any w (some ⟨g,0,none⟩) 1 1 [x] (by omega) hR
  rw [show ([x]:List Int).any badR=b from by simp [hx]] at C
  have HC:=hide C
  clear C hR hx
  go_enter Tryz.func59,Tryz.ntmps59
  go_wp2_with fail
  refine HC.out.mono ?_
  rintro e w1 ⟨rfl,rfl⟩
  cases b with
  | true =>
    go_wp2_with fail
    go_ret
    exact ⟨rfl,rfl⟩
  | false =>
    go_wp2_with fail
    go_ret
    exact ⟨rfl,rfl⟩
theorem known_any (w:World) (d:DoV):Calls Tryz.prog 58 #[.agg d.cells] w fun e w' => e=.returned (.bool (decide (1 ≤ d.k) && decide (d.k ≤ 7))) ∧ Below w.heap.size w w':=by
  unfold DoV.cells
  obtain ⟨k,to,fr,at_,n⟩:=d
  dsimp only
  have HB:=hide (show Below w.heap.size w (w.alloc (.cells #[.int .i64 k,.int .i64 to,.int .i64 fr,.int .i64 at_,.int .i64 n] 72)) from (Below.refl _ w).alloc (Nat.le_refl _) _)
  by_cases h1:1 ≤ k
  · have t1:decide (1 ≤ k)=true:=by simp [h1]
    clear h1
    go_enter Tryz.func58,Tryz.ntmps58
    go_wp2_with fail
    go_ret
    exact ⟨ret_bool (by rw [t1]; rfl),HB.out⟩
  · have t1:decide (1 ≤ k)=false:=by simp only [h1,decide_false]
    clear h1
    go_enter Tryz.func58,Tryz.ntmps58
    go_wp2_with fail
    go_ret
    exact ⟨ret_bool (by rw [t1]; rfl),HB.out⟩
section
variable (w : World) (to fr at_ n : Int)
set_option maxRecDepth 100000 in
set_option maxHeartbeats 4000000 in
theorem wrong_lo (k:Int) (h:k < 1):Calls Tryz.prog 38 #[.agg #[.int .i64 k,.int .i64 to,.int .i64 fr,.int .i64 at_,.int .i64 n]] w fun e w' => e=.returned (.int .i64 5) ∧ Below w.heap.size w w':=by
  have hb0:Below w.heap.size w (w.alloc (.cells #[.int .i64 k,.int .i64 to,.int .i64 fr,.int .i64 at_,.int .i64 n] 72)):=(Below.refl _ w).alloc (Nat.le_refl _) _
  have BX:=hide (Blk.new w 72 #[.int .i64 k,.int .i64 to,.int .i64 fr,.int .i64 at_,.int .i64 n])
  have CK:=known_any (w.alloc (.cells #[.int .i64 k,.int .i64 to,.int .i64 fr,.int .i64 at_,.int .i64 n] 72)) ⟨k,to,fr,at_,n⟩
  unfold DoV.cells at CK
  dsimp only at CK
  rw [show (decide (1 ≤ k) && decide (k ≤ 7))=false from by simp; omega] at CK
  have k1:(k == 1)=false:=by rw [beq_eq_false_iff_ne]; omega
  have k2:(k == 2)=false:=by rw [beq_eq_false_iff_ne]; omega
  clear h
  have HCK:=hide CK
  have HB0:=hide hb0
  clear CK hb0
  go_enter Tryz.func38,Tryz.ntmps38
  go_wp2_with fail
  refine HCK.out.mono ?_
  rintro e w1 ⟨rfl,hb1⟩
  obtain ⟨c1,c2,c3⟩:=(BX.out.below_ hb1).rules
  have c4:=(c1 0).trans (show _=some (.int .i64 k) from rfl)
  have c5:=(c1 1).trans (show _=some (.int .i64 to) from rfl)
  have c6:=(c1 2).trans (show _=some (.int .i64 fr) from rfl)
  have c7:=(c1 4).trans (show _=some (.int .i64 n) from rfl)
  have HB1:=hide (HB0.out.trans (hb1.mono HB0.out.size))
  have BX1:=hide (BX.out.below_ hb1)
  clear hb1 HB0 HCK BX c1
  go_wp2_with fail
  go_ret
  exact ⟨rfl,HB1.out⟩
set_option maxRecDepth 100000 in
set_option maxHeartbeats 4000000 in
theorem wrong_hi (k:Int) (h:7 < k):Calls Tryz.prog 38 #[.agg #[.int .i64 k,.int .i64 to,.int .i64 fr,.int .i64 at_,.int .i64 n]] w fun e w' => e=.returned (.int .i64 5) ∧ Below w.heap.size w w':=by
  have hb0:Below w.heap.size w (w.alloc (.cells #[.int .i64 k,.int .i64 to,.int .i64 fr,.int .i64 at_,.int .i64 n] 72)):=(Below.refl _ w).alloc (Nat.le_refl _) _
  have BX:=hide (Blk.new w 72 #[.int .i64 k,.int .i64 to,.int .i64 fr,.int .i64 at_,.int .i64 n])
  have CK:=known_any (w.alloc (.cells #[.int .i64 k,.int .i64 to,.int .i64 fr,.int .i64 at_,.int .i64 n] 72)) ⟨k,to,fr,at_,n⟩
  unfold DoV.cells at CK
  dsimp only at CK
  rw [show (decide (1 ≤ k) && decide (k ≤ 7))=false from by simp; omega] at CK
  have k1:(k == 1)=false:=by rw [beq_eq_false_iff_ne]; omega
  have k2:(k == 2)=false:=by rw [beq_eq_false_iff_ne]; omega
  clear h
  have HCK:=hide CK
  have HB0:=hide hb0
  clear CK hb0
  go_enter Tryz.func38,Tryz.ntmps38
  go_wp2_with fail
  refine HCK.out.mono ?_
  rintro e w1 ⟨rfl,hb1⟩
  obtain ⟨c1,c2,c3⟩:=(BX.out.below_ hb1).rules
  have c4:=(c1 0).trans (show _=some (.int .i64 k) from rfl)
  have c5:=(c1 1).trans (show _=some (.int .i64 to) from rfl)
  have c6:=(c1 2).trans (show _=some (.int .i64 fr) from rfl)
  have c7:=(c1 4).trans (show _=some (.int .i64 n) from rfl)
  have HB1:=hide (HB0.out.trans (hb1.mono HB0.out.size))
  have BX1:=hide (BX.out.below_ hb1)
  clear hb1 HB0 HCK BX c1
  go_wp2_with fail
  go_ret
  exact ⟨rfl,HB1.out⟩
set_option maxRecDepth 100000 in
set_option maxHeartbeats 4000000 in
theorem wrong_1_to (ht:badR to=true):Calls Tryz.prog 38 #[.agg #[.int .i64 1,.int .i64 to,.int .i64 fr,.int .i64 at_,.int .i64 n]] w fun e w' => e=.returned (.int .i64 2) ∧ Below w.heap.size w w':=by
  have hb0:Below w.heap.size w (w.alloc (.cells #[.int .i64 1,.int .i64 to,.int .i64 fr,.int .i64 at_,.int .i64 n] 72)):=(Below.refl _ w).alloc (Nat.le_refl _) _
  have BX:=hide (Blk.new w 72 #[.int .i64 1,.int .i64 to,.int .i64 fr,.int .i64 at_,.int .i64 n])
  have CK:=known_any (w.alloc (.cells #[.int .i64 1,.int .i64 to,.int .i64 fr,.int .i64 at_,.int .i64 n] 72)) ⟨1,to,fr,at_,n⟩
  unfold DoV.cells at CK
  dsimp only at CK
  rw [show (decide ((1:Int) ≤ 1) && decide ((1:Int) ≤ 7))=true from rfl] at CK
  have HCK:=hide CK
  have HB0:=hide hb0
  clear CK hb0
  go_enter Tryz.func38,Tryz.ntmps38
  go_wp2_with fail
  refine HCK.out.mono ?_
  rintro e w1 ⟨rfl,hb1⟩
  obtain ⟨c1,c2,c3⟩:=(BX.out.below_ hb1).rules
  have c4:=(c1 0).trans (show _=some (.int .i64 1) from rfl)
  have c5:=(c1 1).trans (show _=some (.int .i64 to) from rfl)
  have c6:=(c1 2).trans (show _=some (.int .i64 fr) from rfl)
  have c7:=(c1 4).trans (show _=some (.int .i64 n) from rfl)
  have HB1:=hide (HB0.out.trans (hb1.mono HB0.out.size))
  have BX1:=hide (BX.out.below_ hb1)
  clear hb1 HB0 HCK BX c1
  have CT2:=hide (there_any (w1.alloc (.cells #[.int .i64 to] 3)) w1.heap.size to true ht (Blk.new w1 3 #[.int .i64 to]))
  clear ht
  go_wp2_with fail
  refine CT2.out.mono ?_
  rintro e w2 ⟨rfl,rfl⟩
  have hb2:Below w1.heap.size w1 (w1.alloc (.cells #[.int .i64 to] 3)):=(Below.refl _ _).alloc (Nat.le_refl _) _
  have HB2:=hide (HB1.out.trans (hb2.mono HB1.out.size))
  have BX2:=hide (BX1.out.below_ hb2)
  obtain ⟨W2,hW2⟩:∃ X,w1.alloc (.cells #[.int .i64 to] 3)=X:=⟨_,rfl⟩
  rw [hW2] at HB2 BX2 ⊢
  obtain ⟨c1,c2,c3⟩:=BX2.out.rules
  have c4:=(c1 0).trans (show _=some (.int .i64 1) from rfl)
  have c5:=(c1 1).trans (show _=some (.int .i64 to) from rfl)
  have c6:=(c1 2).trans (show _=some (.int .i64 fr) from rfl)
  have c7:=(c1 4).trans (show _=some (.int .i64 n) from rfl)
  clear hb2 HB1 BX1 CT2 hW2 c1
  go_wp2_with fail
  go_ret
  exact ⟨rfl,HB2.out⟩
set_option maxRecDepth 100000 in
set_option maxHeartbeats 4000000 in
theorem wrong_1_lo (ht:badR to=false) (h:n < 0):Calls Tryz.prog 38 #[.agg #[.int .i64 1,.int .i64 to,.int .i64 fr,.int .i64 at_,.int .i64 n]] w fun e w' => e=.returned (.int .i64 3) ∧ Below w.heap.size w w':=by
  have hb0:Below w.heap.size w (w.alloc (.cells #[.int .i64 1,.int .i64 to,.int .i64 fr,.int .i64 at_,.int .i64 n] 72)):=(Below.refl _ w).alloc (Nat.le_refl _) _
  have BX:=hide (Blk.new w 72 #[.int .i64 1,.int .i64 to,.int .i64 fr,.int .i64 at_,.int .i64 n])
  have CK:=known_any (w.alloc (.cells #[.int .i64 1,.int .i64 to,.int .i64 fr,.int .i64 at_,.int .i64 n] 72)) ⟨1,to,fr,at_,n⟩
  unfold DoV.cells at CK
  dsimp only at CK
  rw [show (decide ((1:Int) ≤ 1) && decide ((1:Int) ≤ 7))=true from rfl] at CK
  have t1:decide (n < 0)=true:=by simp; omega
  clear h
  have HCK:=hide CK
  have HB0:=hide hb0
  clear CK hb0
  go_enter Tryz.func38,Tryz.ntmps38
  go_wp2_with fail
  refine HCK.out.mono ?_
  rintro e w1 ⟨rfl,hb1⟩
  obtain ⟨c1,c2,c3⟩:=(BX.out.below_ hb1).rules
  have c4:=(c1 0).trans (show _=some (.int .i64 1) from rfl)
  have c5:=(c1 1).trans (show _=some (.int .i64 to) from rfl)
  have c6:=(c1 2).trans (show _=some (.int .i64 fr) from rfl)
  have c7:=(c1 4).trans (show _=some (.int .i64 n) from rfl)
  have HB1:=hide (HB0.out.trans (hb1.mono HB0.out.size))
  have BX1:=hide (BX.out.below_ hb1)
  clear hb1 HB0 HCK BX c1
  have CT2:=hide (there_any (w1.alloc (.cells #[.int .i64 to] 3)) w1.heap.size to false ht (Blk.new w1 3 #[.int .i64 to]))
  clear ht
  go_wp2_with fail
  refine CT2.out.mono ?_
  rintro e w2 ⟨rfl,rfl⟩
  have hb2:Below w1.heap.size w1 (w1.alloc (.cells #[.int .i64 to] 3)):=(Below.refl _ _).alloc (Nat.le_refl _) _
  have HB2:=hide (HB1.out.trans (hb2.mono HB1.out.size))
  have BX2:=hide (BX1.out.below_ hb2)
  obtain ⟨W2,hW2⟩:∃ X,w1.alloc (.cells #[.int .i64 to] 3)=X:=⟨_,rfl⟩
  rw [hW2] at HB2 BX2 ⊢
  obtain ⟨c1,c2,c3⟩:=BX2.out.rules
  have c4:=(c1 0).trans (show _=some (.int .i64 1) from rfl)
  have c5:=(c1 1).trans (show _=some (.int .i64 to) from rfl)
  have c6:=(c1 2).trans (show _=some (.int .i64 fr) from rfl)
  have c7:=(c1 4).trans (show _=some (.int .i64 n) from rfl)
  clear hb2 HB1 BX1 CT2 hW2 c1
  go_wp2_with fail
  go_ret
  exact ⟨rfl,HB2.out⟩
set_option maxRecDepth 100000 in
set_option maxHeartbeats 4000000 in
theorem wrong_1_hi (ht:badR to=false) (h:4 < n):Calls Tryz.prog 38 #[.agg #[.int .i64 1,.int .i64 to,.int .i64 fr,.int .i64 at_,.int .i64 n]] w fun e w' => e=.returned (.int .i64 3) ∧ Below w.heap.size w w':=by
  have hb0:Below w.heap.size w (w.alloc (.cells #[.int .i64 1,.int .i64 to,.int .i64 fr,.int .i64 at_,.int .i64 n] 72)):=(Below.refl _ w).alloc (Nat.le_refl _) _
  have BX:=hide (Blk.new w 72 #[.int .i64 1,.int .i64 to,.int .i64 fr,.int .i64 at_,.int .i64 n])
  have CK:=known_any (w.alloc (.cells #[.int .i64 1,.int .i64 to,.int .i64 fr,.int .i64 at_,.int .i64 n] 72)) ⟨1,to,fr,at_,n⟩
  unfold DoV.cells at CK
  dsimp only at CK
  rw [show (decide ((1:Int) ≤ 1) && decide ((1:Int) ≤ 7))=true from rfl] at CK
  have t1:decide (n < 0)=false:=by simp; omega
  have t2:decide (4 < n)=true:=by simp; omega
  clear h
  have HCK:=hide CK
  have HB0:=hide hb0
  clear CK hb0
  go_enter Tryz.func38,Tryz.ntmps38
  go_wp2_with fail
  refine HCK.out.mono ?_
  rintro e w1 ⟨rfl,hb1⟩
  obtain ⟨c1,c2,c3⟩:=(BX.out.below_ hb1).rules
  have c4:=(c1 0).trans (show _=some (.int .i64 1) from rfl)
  have c5:=(c1 1).trans (show _=some (.int .i64 to) from rfl)
  have c6:=(c1 2).trans (show _=some (.int .i64 fr) from rfl)
  have c7:=(c1 4).trans (show _=some (.int .i64 n) from rfl)
  have HB1:=hide (HB0.out.trans (hb1.mono HB0.out.size))
  have BX1:=hide (BX.out.below_ hb1)
  clear hb1 HB0 HCK BX c1
  have CT2:=hide (there_any (w1.alloc (.cells #[.int .i64 to] 3)) w1.heap.size to false ht (Blk.new w1 3 #[.int .i64 to]))
  clear ht
  go_wp2_with fail
  refine CT2.out.mono ?_
  rintro e w2 ⟨rfl,rfl⟩
  have hb2:Below w1.heap.size w1 (w1.alloc (.cells #[.int .i64 to] 3)):=(Below.refl _ _).alloc (Nat.le_refl _) _
  have HB2:=hide (HB1.out.trans (hb2.mono HB1.out.size))
  have BX2:=hide (BX1.out.below_ hb2)
  obtain ⟨W2,hW2⟩:∃ X,w1.alloc (.cells #[.int .i64 to] 3)=X:=⟨_,rfl⟩
  rw [hW2] at HB2 BX2 ⊢
  obtain ⟨c1,c2,c3⟩:=BX2.out.rules
  have c4:=(c1 0).trans (show _=some (.int .i64 1) from rfl)
  have c5:=(c1 1).trans (show _=some (.int .i64 to) from rfl)
  have c6:=(c1 2).trans (show _=some (.int .i64 fr) from rfl)
  have c7:=(c1 4).trans (show _=some (.int .i64 n) from rfl)
  clear hb2 HB1 BX1 CT2 hW2 c1
  go_wp2_with fail
  go_ret
  exact ⟨rfl,HB2.out⟩
set_option maxRecDepth 100000 in
set_option maxHeartbeats 4000000 in
theorem wrong_1_ok (ht:badR to=false) (h:0 ≤ n) (h2:n ≤ 4):Calls Tryz.prog 38 #[.agg #[.int .i64 1,.int .i64 to,.int .i64 fr,.int .i64 at_,.int .i64 n]] w fun e w' => e=.returned (.int .i64 0) ∧ Below w.heap.size w w':=by
  have hb0:Below w.heap.size w (w.alloc (.cells #[.int .i64 1,.int .i64 to,.int .i64 fr,.int .i64 at_,.int .i64 n] 72)):=(Below.refl _ w).alloc (Nat.le_refl _) _
  have BX:=hide (Blk.new w 72 #[.int .i64 1,.int .i64 to,.int .i64 fr,.int .i64 at_,.int .i64 n])
  have CK:=known_any (w.alloc (.cells #[.int .i64 1,.int .i64 to,.int .i64 fr,.int .i64 at_,.int .i64 n] 72)) ⟨1,to,fr,at_,n⟩
  unfold DoV.cells at CK
  dsimp only at CK
  rw [show (decide ((1:Int) ≤ 1) && decide ((1:Int) ≤ 7))=true from rfl] at CK
  have t1:decide (n < 0)=false:=by simp; omega
  have t2:decide (4 < n)=false:=by simp; omega
  clear h h2
  have HCK:=hide CK
  have HB0:=hide hb0
  clear CK hb0
  go_enter Tryz.func38,Tryz.ntmps38
  go_wp2_with fail
  refine HCK.out.mono ?_
  rintro e w1 ⟨rfl,hb1⟩
  obtain ⟨c1,c2,c3⟩:=(BX.out.below_ hb1).rules
  have c4:=(c1 0).trans (show _=some (.int .i64 1) from rfl)
  have c5:=(c1 1).trans (show _=some (.int .i64 to) from rfl)
  have c6:=(c1 2).trans (show _=some (.int .i64 fr) from rfl)
  have c7:=(c1 4).trans (show _=some (.int .i64 n) from rfl)
  have HB1:=hide (HB0.out.trans (hb1.mono HB0.out.size))
  have BX1:=hide (BX.out.below_ hb1)
  clear hb1 HB0 HCK BX c1
  have CT2:=hide (there_any (w1.alloc (.cells #[.int .i64 to] 3)) w1.heap.size to false ht (Blk.new w1 3 #[.int .i64 to]))
  clear ht
  go_wp2_with fail
  refine CT2.out.mono ?_
  rintro e w2 ⟨rfl,rfl⟩
  have hb2:Below w1.heap.size w1 (w1.alloc (.cells #[.int .i64 to] 3)):=(Below.refl _ _).alloc (Nat.le_refl _) _
  have HB2:=hide (HB1.out.trans (hb2.mono HB1.out.size))
  have BX2:=hide (BX1.out.below_ hb2)
  obtain ⟨W2,hW2⟩:∃ X,w1.alloc (.cells #[.int .i64 to] 3)=X:=⟨_,rfl⟩
  rw [hW2] at HB2 BX2 ⊢
  obtain ⟨c1,c2,c3⟩:=BX2.out.rules
  have c4:=(c1 0).trans (show _=some (.int .i64 1) from rfl)
  have c5:=(c1 1).trans (show _=some (.int .i64 to) from rfl)
  have c6:=(c1 2).trans (show _=some (.int .i64 fr) from rfl)
  have c7:=(c1 4).trans (show _=some (.int .i64 n) from rfl)
  clear hb2 HB1 BX1 CT2 hW2 c1
  go_wp2_with fail
  go_ret
  exact ⟨rfl,HB2.out⟩
set_option maxRecDepth 100000 in
set_option maxHeartbeats 4000000 in
theorem wrong_2_to (ht:badR to=true):Calls Tryz.prog 38 #[.agg #[.int .i64 2,.int .i64 to,.int .i64 fr,.int .i64 at_,.int .i64 n]] w fun e w' => e=.returned (.int .i64 2) ∧ Below w.heap.size w w':=by
  have hb0:Below w.heap.size w (w.alloc (.cells #[.int .i64 2,.int .i64 to,.int .i64 fr,.int .i64 at_,.int .i64 n] 72)):=(Below.refl _ w).alloc (Nat.le_refl _) _
  have BX:=hide (Blk.new w 72 #[.int .i64 2,.int .i64 to,.int .i64 fr,.int .i64 at_,.int .i64 n])
  have CK:=known_any (w.alloc (.cells #[.int .i64 2,.int .i64 to,.int .i64 fr,.int .i64 at_,.int .i64 n] 72)) ⟨2,to,fr,at_,n⟩
  unfold DoV.cells at CK
  dsimp only at CK
  rw [show (decide ((1:Int) ≤ 2) && decide ((2:Int) ≤ 7))=true from rfl] at CK
  have HCK:=hide CK
  have HB0:=hide hb0
  clear CK hb0
  go_enter Tryz.func38,Tryz.ntmps38
  go_wp2_with fail
  refine HCK.out.mono ?_
  rintro e w1 ⟨rfl,hb1⟩
  obtain ⟨c1,c2,c3⟩:=(BX.out.below_ hb1).rules
  have c4:=(c1 0).trans (show _=some (.int .i64 2) from rfl)
  have c5:=(c1 1).trans (show _=some (.int .i64 to) from rfl)
  have c6:=(c1 2).trans (show _=some (.int .i64 fr) from rfl)
  have c7:=(c1 4).trans (show _=some (.int .i64 n) from rfl)
  have HB1:=hide (HB0.out.trans (hb1.mono HB0.out.size))
  have BX1:=hide (BX.out.below_ hb1)
  clear hb1 HB0 HCK BX c1
  have CT2:=hide (there_any (w1.alloc (.cells #[.int .i64 to] 3)) w1.heap.size to true ht (Blk.new w1 3 #[.int .i64 to]))
  clear ht
  go_wp2_with fail
  refine CT2.out.mono ?_
  rintro e w2 ⟨rfl,rfl⟩
  have hb2:Below w1.heap.size w1 (w1.alloc (.cells #[.int .i64 to] 3)):=(Below.refl _ _).alloc (Nat.le_refl _) _
  have HB2:=hide (HB1.out.trans (hb2.mono HB1.out.size))
  have BX2:=hide (BX1.out.below_ hb2)
  obtain ⟨W2,hW2⟩:∃ X,w1.alloc (.cells #[.int .i64 to] 3)=X:=⟨_,rfl⟩
  rw [hW2] at HB2 BX2 ⊢
  obtain ⟨c1,c2,c3⟩:=BX2.out.rules
  have c4:=(c1 0).trans (show _=some (.int .i64 2) from rfl)
  have c5:=(c1 1).trans (show _=some (.int .i64 to) from rfl)
  have c6:=(c1 2).trans (show _=some (.int .i64 fr) from rfl)
  have c7:=(c1 4).trans (show _=some (.int .i64 n) from rfl)
  clear hb2 HB1 BX1 CT2 hW2 c1
  go_wp2_with fail
  go_ret
  exact ⟨rfl,HB2.out⟩
set_option maxRecDepth 100000 in
set_option maxHeartbeats 4000000 in
theorem wrong_2_lo (ht:badR to=false) (h:n < -4611686018427387904):Calls Tryz.prog 38 #[.agg #[.int .i64 2,.int .i64 to,.int .i64 fr,.int .i64 at_,.int .i64 n]] w fun e w' => e=.returned (.int .i64 3) ∧ Below w.heap.size w w':=by
  have hb0:Below w.heap.size w (w.alloc (.cells #[.int .i64 2,.int .i64 to,.int .i64 fr,.int .i64 at_,.int .i64 n] 72)):=(Below.refl _ w).alloc (Nat.le_refl _) _
  have BX:=hide (Blk.new w 72 #[.int .i64 2,.int .i64 to,.int .i64 fr,.int .i64 at_,.int .i64 n])
  have CK:=known_any (w.alloc (.cells #[.int .i64 2,.int .i64 to,.int .i64 fr,.int .i64 at_,.int .i64 n] 72)) ⟨2,to,fr,at_,n⟩
  unfold DoV.cells at CK
  dsimp only at CK
  rw [show (decide ((1:Int) ≤ 2) && decide ((2:Int) ≤ 7))=true from rfl] at CK
  have t1:decide (n < -4611686018427387904)=true:=by simp; omega
  clear h
  have HCK:=hide CK
  have HB0:=hide hb0
  clear CK hb0
  go_enter Tryz.func38,Tryz.ntmps38
  go_wp2_with fail
  refine HCK.out.mono ?_
  rintro e w1 ⟨rfl,hb1⟩
  obtain ⟨c1,c2,c3⟩:=(BX.out.below_ hb1).rules
  have c4:=(c1 0).trans (show _=some (.int .i64 2) from rfl)
  have c5:=(c1 1).trans (show _=some (.int .i64 to) from rfl)
  have c6:=(c1 2).trans (show _=some (.int .i64 fr) from rfl)
  have c7:=(c1 4).trans (show _=some (.int .i64 n) from rfl)
  have HB1:=hide (HB0.out.trans (hb1.mono HB0.out.size))
  have BX1:=hide (BX.out.below_ hb1)
  clear hb1 HB0 HCK BX c1
  have CT2:=hide (there_any (w1.alloc (.cells #[.int .i64 to] 3)) w1.heap.size to false ht (Blk.new w1 3 #[.int .i64 to]))
  clear ht
  go_wp2_with fail
  refine CT2.out.mono ?_
  rintro e w2 ⟨rfl,rfl⟩
  have hb2:Below w1.heap.size w1 (w1.alloc (.cells #[.int .i64 to] 3)):=(Below.refl _ _).alloc (Nat.le_refl _) _
  have HB2:=hide (HB1.out.trans (hb2.mono HB1.out.size))
  have BX2:=hide (BX1.out.below_ hb2)
  obtain ⟨W2,hW2⟩:∃ X,w1.alloc (.cells #[.int .i64 to] 3)=X:=⟨_,rfl⟩
  rw [hW2] at HB2 BX2 ⊢
  obtain ⟨c1,c2,c3⟩:=BX2.out.rules
  have c4:=(c1 0).trans (show _=some (.int .i64 2) from rfl)
  have c5:=(c1 1).trans (show _=some (.int .i64 to) from rfl)
  have c6:=(c1 2).trans (show _=some (.int .i64 fr) from rfl)
  have c7:=(c1 4).trans (show _=some (.int .i64 n) from rfl)
  clear hb2 HB1 BX1 CT2 hW2 c1
  go_wp2_with fail
  go_ret
  exact ⟨rfl,HB2.out⟩
set_option maxRecDepth 100000 in
set_option maxHeartbeats 4000000 in
theorem wrong_2_hi (ht:badR to=false) (h:4611686018427387903 < n):Calls Tryz.prog 38 #[.agg #[.int .i64 2,.int .i64 to,.int .i64 fr,.int .i64 at_,.int .i64 n]] w fun e w' => e=.returned (.int .i64 3) ∧ Below w.heap.size w w':=by
  have hb0:Below w.heap.size w (w.alloc (.cells #[.int .i64 2,.int .i64 to,.int .i64 fr,.int .i64 at_,.int .i64 n] 72)):=(Below.refl _ w).alloc (Nat.le_refl _) _
  have BX:=hide (Blk.new w 72 #[.int .i64 2,.int .i64 to,.int .i64 fr,.int .i64 at_,.int .i64 n])
  have CK:=known_any (w.alloc (.cells #[.int .i64 2,.int .i64 to,.int .i64 fr,.int .i64 at_,.int .i64 n] 72)) ⟨2,to,fr,at_,n⟩
  unfold DoV.cells at CK
  dsimp only at CK
  rw [show (decide ((1:Int) ≤ 2) && decide ((2:Int) ≤ 7))=true from rfl] at CK
  have t1:decide (n < -4611686018427387904)=false:=by simp; omega
  have t2:decide (4611686018427387903 < n)=true:=by simp; omega
  clear h
  have HCK:=hide CK
  have HB0:=hide hb0
  clear CK hb0
  go_enter Tryz.func38,Tryz.ntmps38
  go_wp2_with fail
  refine HCK.out.mono ?_
  rintro e w1 ⟨rfl,hb1⟩
  obtain ⟨c1,c2,c3⟩:=(BX.out.below_ hb1).rules
  have c4:=(c1 0).trans (show _=some (.int .i64 2) from rfl)
  have c5:=(c1 1).trans (show _=some (.int .i64 to) from rfl)
  have c6:=(c1 2).trans (show _=some (.int .i64 fr) from rfl)
  have c7:=(c1 4).trans (show _=some (.int .i64 n) from rfl)
  have HB1:=hide (HB0.out.trans (hb1.mono HB0.out.size))
  have BX1:=hide (BX.out.below_ hb1)
  clear hb1 HB0 HCK BX c1
  have CT2:=hide (there_any (w1.alloc (.cells #[.int .i64 to] 3)) w1.heap.size to false ht (Blk.new w1 3 #[.int .i64 to]))
  clear ht
  go_wp2_with fail
  refine CT2.out.mono ?_
  rintro e w2 ⟨rfl,rfl⟩
  have hb2:Below w1.heap.size w1 (w1.alloc (.cells #[.int .i64 to] 3)):=(Below.refl _ _).alloc (Nat.le_refl _) _
  have HB2:=hide (HB1.out.trans (hb2.mono HB1.out.size))
  have BX2:=hide (BX1.out.below_ hb2)
  obtain ⟨W2,hW2⟩:∃ X,w1.alloc (.cells #[.int .i64 to] 3)=X:=⟨_,rfl⟩
  rw [hW2] at HB2 BX2 ⊢
  obtain ⟨c1,c2,c3⟩:=BX2.out.rules
  have c4:=(c1 0).trans (show _=some (.int .i64 2) from rfl)
  have c5:=(c1 1).trans (show _=some (.int .i64 to) from rfl)
  have c6:=(c1 2).trans (show _=some (.int .i64 fr) from rfl)
  have c7:=(c1 4).trans (show _=some (.int .i64 n) from rfl)
  clear hb2 HB1 BX1 CT2 hW2 c1
  go_wp2_with fail
  go_ret
  exact ⟨rfl,HB2.out⟩
set_option maxRecDepth 100000 in
set_option maxHeartbeats 4000000 in
theorem wrong_2_ok (ht:badR to=false) (h:-4611686018427387904 ≤ n) (h2:n ≤ 4611686018427387903):Calls Tryz.prog 38 #[.agg #[.int .i64 2,.int .i64 to,.int .i64 fr,.int .i64 at_,.int .i64 n]] w fun e w' => e=.returned (.int .i64 0) ∧ Below w.heap.size w w':=by
  have hb0:Below w.heap.size w (w.alloc (.cells #[.int .i64 2,.int .i64 to,.int .i64 fr,.int .i64 at_,.int .i64 n] 72)):=(Below.refl _ w).alloc (Nat.le_refl _) _
  have BX:=hide (Blk.new w 72 #[.int .i64 2,.int .i64 to,.int .i64 fr,.int .i64 at_,.int .i64 n])
  have CK:=known_any (w.alloc (.cells #[.int .i64 2,.int .i64 to,.int .i64 fr,.int .i64 at_,.int .i64 n] 72)) ⟨2,to,fr,at_,n⟩
  unfold DoV.cells at CK
  dsimp only at CK
  rw [show (decide ((1:Int) ≤ 2) && decide ((2:Int) ≤ 7))=true from rfl] at CK
  have t1:decide (n < -4611686018427387904)=false:=by simp; omega
  have t2:decide (4611686018427387903 < n)=false:=by simp; omega
  clear h h2
  have HCK:=hide CK
  have HB0:=hide hb0
  clear CK hb0
  go_enter Tryz.func38,Tryz.ntmps38
  go_wp2_with fail
  refine HCK.out.mono ?_
  rintro e w1 ⟨rfl,hb1⟩
  obtain ⟨c1,c2,c3⟩:=(BX.out.below_ hb1).rules
  have c4:=(c1 0).trans (show _=some (.int .i64 2) from rfl)
  have c5:=(c1 1).trans (show _=some (.int .i64 to) from rfl)
  have c6:=(c1 2).trans (show _=some (.int .i64 fr) from rfl)
  have c7:=(c1 4).trans (show _=some (.int .i64 n) from rfl)
  have HB1:=hide (HB0.out.trans (hb1.mono HB0.out.size))
  have BX1:=hide (BX.out.below_ hb1)
  clear hb1 HB0 HCK BX c1
  have CT2:=hide (there_any (w1.alloc (.cells #[.int .i64 to] 3)) w1.heap.size to false ht (Blk.new w1 3 #[.int .i64 to]))
  clear ht
  go_wp2_with fail
  refine CT2.out.mono ?_
  rintro e w2 ⟨rfl,rfl⟩
  have hb2:Below w1.heap.size w1 (w1.alloc (.cells #[.int .i64 to] 3)):=(Below.refl _ _).alloc (Nat.le_refl _) _
  have HB2:=hide (HB1.out.trans (hb2.mono HB1.out.size))
  have BX2:=hide (BX1.out.below_ hb2)
  obtain ⟨W2,hW2⟩:∃ X,w1.alloc (.cells #[.int .i64 to] 3)=X:=⟨_,rfl⟩
  rw [hW2] at HB2 BX2 ⊢
  obtain ⟨c1,c2,c3⟩:=BX2.out.rules
  have c4:=(c1 0).trans (show _=some (.int .i64 2) from rfl)
  have c5:=(c1 1).trans (show _=some (.int .i64 to) from rfl)
  have c6:=(c1 2).trans (show _=some (.int .i64 fr) from rfl)
  have c7:=(c1 4).trans (show _=some (.int .i64 n) from rfl)
  clear hb2 HB1 BX1 CT2 hW2 c1
  go_wp2_with fail
  go_ret
  exact ⟨rfl,HB2.out⟩
set_option maxRecDepth 100000 in
set_option maxHeartbeats 4000000 in
theorem wrong_3_to (ht:badR to=true):Calls Tryz.prog 38 #[.agg #[.int .i64 3,.int .i64 to,.int .i64 fr,.int .i64 at_,.int .i64 n]] w fun e w' => e=.returned (.int .i64 2) ∧ Below w.heap.size w w':=by
  have hb0:Below w.heap.size w (w.alloc (.cells #[.int .i64 3,.int .i64 to,.int .i64 fr,.int .i64 at_,.int .i64 n] 72)):=(Below.refl _ w).alloc (Nat.le_refl _) _
  have BX:=hide (Blk.new w 72 #[.int .i64 3,.int .i64 to,.int .i64 fr,.int .i64 at_,.int .i64 n])
  have CK:=known_any (w.alloc (.cells #[.int .i64 3,.int .i64 to,.int .i64 fr,.int .i64 at_,.int .i64 n] 72)) ⟨3,to,fr,at_,n⟩
  unfold DoV.cells at CK
  dsimp only at CK
  rw [show (decide ((1:Int) ≤ 3) && decide ((3:Int) ≤ 7))=true from rfl] at CK
  have HCK:=hide CK
  have HB0:=hide hb0
  clear CK hb0
  go_enter Tryz.func38,Tryz.ntmps38
  go_wp2_with fail
  refine HCK.out.mono ?_
  rintro e w1 ⟨rfl,hb1⟩
  obtain ⟨c1,c2,c3⟩:=(BX.out.below_ hb1).rules
  have c4:=(c1 0).trans (show _=some (.int .i64 3) from rfl)
  have c5:=(c1 1).trans (show _=some (.int .i64 to) from rfl)
  have c6:=(c1 2).trans (show _=some (.int .i64 fr) from rfl)
  have c7:=(c1 4).trans (show _=some (.int .i64 n) from rfl)
  have HB1:=hide (HB0.out.trans (hb1.mono HB0.out.size))
  have BX1:=hide (BX.out.below_ hb1)
  clear hb1 HB0 HCK BX c1
  have CT2:=hide (there_any (w1.alloc (.cells #[.int .i64 to] 3)) w1.heap.size to true ht (Blk.new w1 3 #[.int .i64 to]))
  clear ht
  go_wp2_with fail
  refine CT2.out.mono ?_
  rintro e w2 ⟨rfl,rfl⟩
  have hb2:Below w1.heap.size w1 (w1.alloc (.cells #[.int .i64 to] 3)):=(Below.refl _ _).alloc (Nat.le_refl _) _
  have HB2:=hide (HB1.out.trans (hb2.mono HB1.out.size))
  have BX2:=hide (BX1.out.below_ hb2)
  obtain ⟨W2,hW2⟩:∃ X,w1.alloc (.cells #[.int .i64 to] 3)=X:=⟨_,rfl⟩
  rw [hW2] at HB2 BX2 ⊢
  obtain ⟨c1,c2,c3⟩:=BX2.out.rules
  have c4:=(c1 0).trans (show _=some (.int .i64 3) from rfl)
  have c5:=(c1 1).trans (show _=some (.int .i64 to) from rfl)
  have c6:=(c1 2).trans (show _=some (.int .i64 fr) from rfl)
  have c7:=(c1 4).trans (show _=some (.int .i64 n) from rfl)
  clear hb2 HB1 BX1 CT2 hW2 c1
  go_wp2_with fail
  go_ret
  exact ⟨rfl,HB2.out⟩
set_option maxRecDepth 100000 in
set_option maxHeartbeats 4000000 in
theorem wrong_3_fr (ht:badR to=false) (hf:badR fr=true):Calls Tryz.prog 38 #[.agg #[.int .i64 3,.int .i64 to,.int .i64 fr,.int .i64 at_,.int .i64 n]] w fun e w' => e=.returned (.int .i64 2) ∧ Below w.heap.size w w':=by
  have hb0:Below w.heap.size w (w.alloc (.cells #[.int .i64 3,.int .i64 to,.int .i64 fr,.int .i64 at_,.int .i64 n] 72)):=(Below.refl _ w).alloc (Nat.le_refl _) _
  have BX:=hide (Blk.new w 72 #[.int .i64 3,.int .i64 to,.int .i64 fr,.int .i64 at_,.int .i64 n])
  have CK:=known_any (w.alloc (.cells #[.int .i64 3,.int .i64 to,.int .i64 fr,.int .i64 at_,.int .i64 n] 72)) ⟨3,to,fr,at_,n⟩
  unfold DoV.cells at CK
  dsimp only at CK
  rw [show (decide ((1:Int) ≤ 3) && decide ((3:Int) ≤ 7))=true from rfl] at CK
  have HCK:=hide CK
  have HB0:=hide hb0
  clear CK hb0
  go_enter Tryz.func38,Tryz.ntmps38
  go_wp2_with fail
  refine HCK.out.mono ?_
  rintro e w1 ⟨rfl,hb1⟩
  obtain ⟨c1,c2,c3⟩:=(BX.out.below_ hb1).rules
  have c4:=(c1 0).trans (show _=some (.int .i64 3) from rfl)
  have c5:=(c1 1).trans (show _=some (.int .i64 to) from rfl)
  have c6:=(c1 2).trans (show _=some (.int .i64 fr) from rfl)
  have c7:=(c1 4).trans (show _=some (.int .i64 n) from rfl)
  have HB1:=hide (HB0.out.trans (hb1.mono HB0.out.size))
  have BX1:=hide (BX.out.below_ hb1)
  clear hb1 HB0 HCK BX c1
  have CT2:=hide (there_any (w1.alloc (.cells #[.int .i64 to] 3)) w1.heap.size to false ht (Blk.new w1 3 #[.int .i64 to]))
  clear ht
  go_wp2_with fail
  refine CT2.out.mono ?_
  rintro e w2 ⟨rfl,rfl⟩
  have hb2:Below w1.heap.size w1 (w1.alloc (.cells #[.int .i64 to] 3)):=(Below.refl _ _).alloc (Nat.le_refl _) _
  have HB2:=hide (HB1.out.trans (hb2.mono HB1.out.size))
  have BX2:=hide (BX1.out.below_ hb2)
  obtain ⟨W2,hW2⟩:∃ X,w1.alloc (.cells #[.int .i64 to] 3)=X:=⟨_,rfl⟩
  rw [hW2] at HB2 BX2 ⊢
  obtain ⟨c1,c2,c3⟩:=BX2.out.rules
  have c4:=(c1 0).trans (show _=some (.int .i64 3) from rfl)
  have c5:=(c1 1).trans (show _=some (.int .i64 to) from rfl)
  have c6:=(c1 2).trans (show _=some (.int .i64 fr) from rfl)
  have c7:=(c1 4).trans (show _=some (.int .i64 n) from rfl)
  clear hb2 HB1 BX1 CT2 hW2 c1
  have CT3:=hide (there_any (W2.alloc (.cells #[.int .i64 fr] 3)) W2.heap.size fr true hf (Blk.new W2 3 #[.int .i64 fr]))
  clear hf
  go_wp2_with fail
  refine CT3.out.mono ?_
  rintro e w3 ⟨rfl,rfl⟩
  have hb3:Below W2.heap.size W2 (W2.alloc (.cells #[.int .i64 fr] 3)):=(Below.refl _ _).alloc (Nat.le_refl _) _
  have HB3:=hide (HB2.out.trans (hb3.mono HB2.out.size))
  have BX3:=hide (BX2.out.below_ hb3)
  obtain ⟨W3,hW3⟩:∃ X,W2.alloc (.cells #[.int .i64 fr] 3)=X:=⟨_,rfl⟩
  rw [hW3] at HB3 BX3 ⊢
  obtain ⟨c1,c2,c3⟩:=BX3.out.rules
  have c4:=(c1 0).trans (show _=some (.int .i64 3) from rfl)
  have c5:=(c1 1).trans (show _=some (.int .i64 to) from rfl)
  have c6:=(c1 2).trans (show _=some (.int .i64 fr) from rfl)
  have c7:=(c1 4).trans (show _=some (.int .i64 n) from rfl)
  clear hb3 HB2 BX2 CT3 hW3 c1
  go_wp2_with fail
  go_ret
  exact ⟨rfl,HB3.out⟩
set_option maxRecDepth 100000 in
set_option maxHeartbeats 4000000 in
theorem wrong_3_ok (ht:badR to=false) (hf:badR fr=false):Calls Tryz.prog 38 #[.agg #[.int .i64 3,.int .i64 to,.int .i64 fr,.int .i64 at_,.int .i64 n]] w fun e w' => e=.returned (.int .i64 0) ∧ Below w.heap.size w w':=by
  have hb0:Below w.heap.size w (w.alloc (.cells #[.int .i64 3,.int .i64 to,.int .i64 fr,.int .i64 at_,.int .i64 n] 72)):=(Below.refl _ w).alloc (Nat.le_refl _) _
  have BX:=hide (Blk.new w 72 #[.int .i64 3,.int .i64 to,.int .i64 fr,.int .i64 at_,.int .i64 n])
  have CK:=known_any (w.alloc (.cells #[.int .i64 3,.int .i64 to,.int .i64 fr,.int .i64 at_,.int .i64 n] 72)) ⟨3,to,fr,at_,n⟩
  unfold DoV.cells at CK
  dsimp only at CK
  rw [show (decide ((1:Int) ≤ 3) && decide ((3:Int) ≤ 7))=true from rfl] at CK
  have HCK:=hide CK
  have HB0:=hide hb0
  clear CK hb0
  go_enter Tryz.func38,Tryz.ntmps38
  go_wp2_with fail
  refine HCK.out.mono ?_
  rintro e w1 ⟨rfl,hb1⟩
  obtain ⟨c1,c2,c3⟩:=(BX.out.below_ hb1).rules
  have c4:=(c1 0).trans (show _=some (.int .i64 3) from rfl)
  have c5:=(c1 1).trans (show _=some (.int .i64 to) from rfl)
  have c6:=(c1 2).trans (show _=some (.int .i64 fr) from rfl)
  have c7:=(c1 4).trans (show _=some (.int .i64 n) from rfl)
  have HB1:=hide (HB0.out.trans (hb1.mono HB0.out.size))
  have BX1:=hide (BX.out.below_ hb1)
  clear hb1 HB0 HCK BX c1
  have CT2:=hide (there_any (w1.alloc (.cells #[.int .i64 to] 3)) w1.heap.size to false ht (Blk.new w1 3 #[.int .i64 to]))
  clear ht
  go_wp2_with fail
  refine CT2.out.mono ?_
  rintro e w2 ⟨rfl,rfl⟩
  have hb2:Below w1.heap.size w1 (w1.alloc (.cells #[.int .i64 to] 3)):=(Below.refl _ _).alloc (Nat.le_refl _) _
  have HB2:=hide (HB1.out.trans (hb2.mono HB1.out.size))
  have BX2:=hide (BX1.out.below_ hb2)
  obtain ⟨W2,hW2⟩:∃ X,w1.alloc (.cells #[.int .i64 to] 3)=X:=⟨_,rfl⟩
  rw [hW2] at HB2 BX2 ⊢
  obtain ⟨c1,c2,c3⟩:=BX2.out.rules
  have c4:=(c1 0).trans (show _=some (.int .i64 3) from rfl)
  have c5:=(c1 1).trans (show _=some (.int .i64 to) from rfl)
  have c6:=(c1 2).trans (show _=some (.int .i64 fr) from rfl)
  have c7:=(c1 4).trans (show _=some (.int .i64 n) from rfl)
  clear hb2 HB1 BX1 CT2 hW2 c1
  have CT3:=hide (there_any (W2.alloc (.cells #[.int .i64 fr] 3)) W2.heap.size fr false hf (Blk.new W2 3 #[.int .i64 fr]))
  clear hf
  go_wp2_with fail
  refine CT3.out.mono ?_
  rintro e w3 ⟨rfl,rfl⟩
  have hb3:Below W2.heap.size W2 (W2.alloc (.cells #[.int .i64 fr] 3)):=(Below.refl _ _).alloc (Nat.le_refl _) _
  have HB3:=hide (HB2.out.trans (hb3.mono HB2.out.size))
  have BX3:=hide (BX2.out.below_ hb3)
  obtain ⟨W3,hW3⟩:∃ X,W2.alloc (.cells #[.int .i64 fr] 3)=X:=⟨_,rfl⟩
  rw [hW3] at HB3 BX3 ⊢
  obtain ⟨c1,c2,c3⟩:=BX3.out.rules
  have c4:=(c1 0).trans (show _=some (.int .i64 3) from rfl)
  have c5:=(c1 1).trans (show _=some (.int .i64 to) from rfl)
  have c6:=(c1 2).trans (show _=some (.int .i64 fr) from rfl)
  have c7:=(c1 4).trans (show _=some (.int .i64 n) from rfl)
  clear hb3 HB2 BX2 CT3 hW3 c1
  go_wp2_with fail
  go_ret
  exact ⟨rfl,HB3.out⟩
set_option maxRecDepth 100000 in
set_option maxHeartbeats 4000000 in
theorem wrong_4_to (ht:badR to=true):Calls Tryz.prog 38 #[.agg #[.int .i64 4,.int .i64 to,.int .i64 fr,.int .i64 at_,.int .i64 n]] w fun e w' => e=.returned (.int .i64 2) ∧ Below w.heap.size w w':=by
  have hb0:Below w.heap.size w (w.alloc (.cells #[.int .i64 4,.int .i64 to,.int .i64 fr,.int .i64 at_,.int .i64 n] 72)):=(Below.refl _ w).alloc (Nat.le_refl _) _
  have BX:=hide (Blk.new w 72 #[.int .i64 4,.int .i64 to,.int .i64 fr,.int .i64 at_,.int .i64 n])
  have CK:=known_any (w.alloc (.cells #[.int .i64 4,.int .i64 to,.int .i64 fr,.int .i64 at_,.int .i64 n] 72)) ⟨4,to,fr,at_,n⟩
  unfold DoV.cells at CK
  dsimp only at CK
  rw [show (decide ((1:Int) ≤ 4) && decide ((4:Int) ≤ 7))=true from rfl] at CK
  have HCK:=hide CK
  have HB0:=hide hb0
  clear CK hb0
  go_enter Tryz.func38,Tryz.ntmps38
  go_wp2_with fail
  refine HCK.out.mono ?_
  rintro e w1 ⟨rfl,hb1⟩
  obtain ⟨c1,c2,c3⟩:=(BX.out.below_ hb1).rules
  have c4:=(c1 0).trans (show _=some (.int .i64 4) from rfl)
  have c5:=(c1 1).trans (show _=some (.int .i64 to) from rfl)
  have c6:=(c1 2).trans (show _=some (.int .i64 fr) from rfl)
  have c7:=(c1 4).trans (show _=some (.int .i64 n) from rfl)
  have HB1:=hide (HB0.out.trans (hb1.mono HB0.out.size))
  have BX1:=hide (BX.out.below_ hb1)
  clear hb1 HB0 HCK BX c1
  have CT2:=hide (there_any (w1.alloc (.cells #[.int .i64 to] 3)) w1.heap.size to true ht (Blk.new w1 3 #[.int .i64 to]))
  clear ht
  go_wp2_with fail
  refine CT2.out.mono ?_
  rintro e w2 ⟨rfl,rfl⟩
  have hb2:Below w1.heap.size w1 (w1.alloc (.cells #[.int .i64 to] 3)):=(Below.refl _ _).alloc (Nat.le_refl _) _
  have HB2:=hide (HB1.out.trans (hb2.mono HB1.out.size))
  have BX2:=hide (BX1.out.below_ hb2)
  obtain ⟨W2,hW2⟩:∃ X,w1.alloc (.cells #[.int .i64 to] 3)=X:=⟨_,rfl⟩
  rw [hW2] at HB2 BX2 ⊢
  obtain ⟨c1,c2,c3⟩:=BX2.out.rules
  have c4:=(c1 0).trans (show _=some (.int .i64 4) from rfl)
  have c5:=(c1 1).trans (show _=some (.int .i64 to) from rfl)
  have c6:=(c1 2).trans (show _=some (.int .i64 fr) from rfl)
  have c7:=(c1 4).trans (show _=some (.int .i64 n) from rfl)
  clear hb2 HB1 BX1 CT2 hW2 c1
  go_wp2_with fail
  go_ret
  exact ⟨rfl,HB2.out⟩
set_option maxRecDepth 100000 in
set_option maxHeartbeats 4000000 in
theorem wrong_4_fr (ht:badR to=false) (hf:badR fr=true):Calls Tryz.prog 38 #[.agg #[.int .i64 4,.int .i64 to,.int .i64 fr,.int .i64 at_,.int .i64 n]] w fun e w' => e=.returned (.int .i64 2) ∧ Below w.heap.size w w':=by
  have hb0:Below w.heap.size w (w.alloc (.cells #[.int .i64 4,.int .i64 to,.int .i64 fr,.int .i64 at_,.int .i64 n] 72)):=(Below.refl _ w).alloc (Nat.le_refl _) _
  have BX:=hide (Blk.new w 72 #[.int .i64 4,.int .i64 to,.int .i64 fr,.int .i64 at_,.int .i64 n])
  have CK:=known_any (w.alloc (.cells #[.int .i64 4,.int .i64 to,.int .i64 fr,.int .i64 at_,.int .i64 n] 72)) ⟨4,to,fr,at_,n⟩
  unfold DoV.cells at CK
  dsimp only at CK
  rw [show (decide ((1:Int) ≤ 4) && decide ((4:Int) ≤ 7))=true from rfl] at CK
  have HCK:=hide CK
  have HB0:=hide hb0
  clear CK hb0
  go_enter Tryz.func38,Tryz.ntmps38
  go_wp2_with fail
  refine HCK.out.mono ?_
  rintro e w1 ⟨rfl,hb1⟩
  obtain ⟨c1,c2,c3⟩:=(BX.out.below_ hb1).rules
  have c4:=(c1 0).trans (show _=some (.int .i64 4) from rfl)
  have c5:=(c1 1).trans (show _=some (.int .i64 to) from rfl)
  have c6:=(c1 2).trans (show _=some (.int .i64 fr) from rfl)
  have c7:=(c1 4).trans (show _=some (.int .i64 n) from rfl)
  have HB1:=hide (HB0.out.trans (hb1.mono HB0.out.size))
  have BX1:=hide (BX.out.below_ hb1)
  clear hb1 HB0 HCK BX c1
  have CT2:=hide (there_any (w1.alloc (.cells #[.int .i64 to] 3)) w1.heap.size to false ht (Blk.new w1 3 #[.int .i64 to]))
  clear ht
  go_wp2_with fail
  refine CT2.out.mono ?_
  rintro e w2 ⟨rfl,rfl⟩
  have hb2:Below w1.heap.size w1 (w1.alloc (.cells #[.int .i64 to] 3)):=(Below.refl _ _).alloc (Nat.le_refl _) _
  have HB2:=hide (HB1.out.trans (hb2.mono HB1.out.size))
  have BX2:=hide (BX1.out.below_ hb2)
  obtain ⟨W2,hW2⟩:∃ X,w1.alloc (.cells #[.int .i64 to] 3)=X:=⟨_,rfl⟩
  rw [hW2] at HB2 BX2 ⊢
  obtain ⟨c1,c2,c3⟩:=BX2.out.rules
  have c4:=(c1 0).trans (show _=some (.int .i64 4) from rfl)
  have c5:=(c1 1).trans (show _=some (.int .i64 to) from rfl)
  have c6:=(c1 2).trans (show _=some (.int .i64 fr) from rfl)
  have c7:=(c1 4).trans (show _=some (.int .i64 n) from rfl)
  clear hb2 HB1 BX1 CT2 hW2 c1
  have CT3:=hide (there_any (W2.alloc (.cells #[.int .i64 fr] 3)) W2.heap.size fr true hf (Blk.new W2 3 #[.int .i64 fr]))
  clear hf
  go_wp2_with fail
  refine CT3.out.mono ?_
  rintro e w3 ⟨rfl,rfl⟩
  have hb3:Below W2.heap.size W2 (W2.alloc (.cells #[.int .i64 fr] 3)):=(Below.refl _ _).alloc (Nat.le_refl _) _
  have HB3:=hide (HB2.out.trans (hb3.mono HB2.out.size))
  have BX3:=hide (BX2.out.below_ hb3)
  obtain ⟨W3,hW3⟩:∃ X,W2.alloc (.cells #[.int .i64 fr] 3)=X:=⟨_,rfl⟩
  rw [hW3] at HB3 BX3 ⊢
  obtain ⟨c1,c2,c3⟩:=BX3.out.rules
  have c4:=(c1 0).trans (show _=some (.int .i64 4) from rfl)
  have c5:=(c1 1).trans (show _=some (.int .i64 to) from rfl)
  have c6:=(c1 2).trans (show _=some (.int .i64 fr) from rfl)
  have c7:=(c1 4).trans (show _=some (.int .i64 n) from rfl)
  clear hb3 HB2 BX2 CT3 hW3 c1
  go_wp2_with fail
  go_ret
  exact ⟨rfl,HB3.out⟩
set_option maxRecDepth 100000 in
set_option maxHeartbeats 4000000 in
theorem wrong_4_ok (ht:badR to=false) (hf:badR fr=false):Calls Tryz.prog 38 #[.agg #[.int .i64 4,.int .i64 to,.int .i64 fr,.int .i64 at_,.int .i64 n]] w fun e w' => e=.returned (.int .i64 0) ∧ Below w.heap.size w w':=by
  have hb0:Below w.heap.size w (w.alloc (.cells #[.int .i64 4,.int .i64 to,.int .i64 fr,.int .i64 at_,.int .i64 n] 72)):=(Below.refl _ w).alloc (Nat.le_refl _) _
  have BX:=hide (Blk.new w 72 #[.int .i64 4,.int .i64 to,.int .i64 fr,.int .i64 at_,.int .i64 n])
  have CK:=known_any (w.alloc (.cells #[.int .i64 4,.int .i64 to,.int .i64 fr,.int .i64 at_,.int .i64 n] 72)) ⟨4,to,fr,at_,n⟩
  unfold DoV.cells at CK
  dsimp only at CK
  rw [show (decide ((1:Int) ≤ 4) && decide ((4:Int) ≤ 7))=true from rfl] at CK
  have HCK:=hide CK
  have HB0:=hide hb0
  clear CK hb0
  go_enter Tryz.func38,Tryz.ntmps38
  go_wp2_with fail
  refine HCK.out.mono ?_
  rintro e w1 ⟨rfl,hb1⟩
  obtain ⟨c1,c2,c3⟩:=(BX.out.below_ hb1).rules
  have c4:=(c1 0).trans (show _=some (.int .i64 4) from rfl)
  have c5:=(c1 1).trans (show _=some (.int .i64 to) from rfl)
  have c6:=(c1 2).trans (show _=some (.int .i64 fr) from rfl)
  have c7:=(c1 4).trans (show _=some (.int .i64 n) from rfl)
  have HB1:=hide (HB0.out.trans (hb1.mono HB0.out.size))
  have BX1:=hide (BX.out.below_ hb1)
  clear hb1 HB0 HCK BX c1
  have CT2:=hide (there_any (w1.alloc (.cells #[.int .i64 to] 3)) w1.heap.size to false ht (Blk.new w1 3 #[.int .i64 to]))
  clear ht
  go_wp2_with fail
  refine CT2.out.mono ?_
  rintro e w2 ⟨rfl,rfl⟩
  have hb2:Below w1.heap.size w1 (w1.alloc (.cells #[.int .i64 to] 3)):=(Below.refl _ _).alloc (Nat.le_refl _) _
  have HB2:=hide (HB1.out.trans (hb2.mono HB1.out.size))
  have BX2:=hide (BX1.out.below_ hb2)
  obtain ⟨W2,hW2⟩:∃ X,w1.alloc (.cells #[.int .i64 to] 3)=X:=⟨_,rfl⟩
  rw [hW2] at HB2 BX2 ⊢
  obtain ⟨c1,c2,c3⟩:=BX2.out.rules
  have c4:=(c1 0).trans (show _=some (.int .i64 4) from rfl)
  have c5:=(c1 1).trans (show _=some (.int .i64 to) from rfl)
  have c6:=(c1 2).trans (show _=some (.int .i64 fr) from rfl)
  have c7:=(c1 4).trans (show _=some (.int .i64 n) from rfl)
  clear hb2 HB1 BX1 CT2 hW2 c1
  have CT3:=hide (there_any (W2.alloc (.cells #[.int .i64 fr] 3)) W2.heap.size fr false hf (Blk.new W2 3 #[.int .i64 fr]))
  clear hf
  go_wp2_with fail
  refine CT3.out.mono ?_
  rintro e w3 ⟨rfl,rfl⟩
  have hb3:Below W2.heap.size W2 (W2.alloc (.cells #[.int .i64 fr] 3)):=(Below.refl _ _).alloc (Nat.le_refl _) _
  have HB3:=hide (HB2.out.trans (hb3.mono HB2.out.size))
  have BX3:=hide (BX2.out.below_ hb3)
  obtain ⟨W3,hW3⟩:∃ X,W2.alloc (.cells #[.int .i64 fr] 3)=X:=⟨_,rfl⟩
  rw [hW3] at HB3 BX3 ⊢
  obtain ⟨c1,c2,c3⟩:=BX3.out.rules
  have c4:=(c1 0).trans (show _=some (.int .i64 4) from rfl)
  have c5:=(c1 1).trans (show _=some (.int .i64 to) from rfl)
  have c6:=(c1 2).trans (show _=some (.int .i64 fr) from rfl)
  have c7:=(c1 4).trans (show _=some (.int .i64 n) from rfl)
  clear hb3 HB2 BX2 CT3 hW3 c1
  go_wp2_with fail
  go_ret
  exact ⟨rfl,HB3.out⟩
set_option maxRecDepth 100000 in
set_option maxHeartbeats 4000000 in
theorem wrong_5_to (ht:badR to=true):Calls Tryz.prog 38 #[.agg #[.int .i64 5,.int .i64 to,.int .i64 fr,.int .i64 at_,.int .i64 n]] w fun e w' => e=.returned (.int .i64 2) ∧ Below w.heap.size w w':=by
  have hb0:Below w.heap.size w (w.alloc (.cells #[.int .i64 5,.int .i64 to,.int .i64 fr,.int .i64 at_,.int .i64 n] 72)):=(Below.refl _ w).alloc (Nat.le_refl _) _
  have BX:=hide (Blk.new w 72 #[.int .i64 5,.int .i64 to,.int .i64 fr,.int .i64 at_,.int .i64 n])
  have CK:=known_any (w.alloc (.cells #[.int .i64 5,.int .i64 to,.int .i64 fr,.int .i64 at_,.int .i64 n] 72)) ⟨5,to,fr,at_,n⟩
  unfold DoV.cells at CK
  dsimp only at CK
  rw [show (decide ((1:Int) ≤ 5) && decide ((5:Int) ≤ 7))=true from rfl] at CK
  have HCK:=hide CK
  have HB0:=hide hb0
  clear CK hb0
  go_enter Tryz.func38,Tryz.ntmps38
  go_wp2_with fail
  refine HCK.out.mono ?_
  rintro e w1 ⟨rfl,hb1⟩
  obtain ⟨c1,c2,c3⟩:=(BX.out.below_ hb1).rules
  have c4:=(c1 0).trans (show _=some (.int .i64 5) from rfl)
  have c5:=(c1 1).trans (show _=some (.int .i64 to) from rfl)
  have c6:=(c1 2).trans (show _=some (.int .i64 fr) from rfl)
  have c7:=(c1 4).trans (show _=some (.int .i64 n) from rfl)
  have HB1:=hide (HB0.out.trans (hb1.mono HB0.out.size))
  have BX1:=hide (BX.out.below_ hb1)
  clear hb1 HB0 HCK BX c1
  have CT2:=hide (there_any (w1.alloc (.cells #[.int .i64 to] 3)) w1.heap.size to true ht (Blk.new w1 3 #[.int .i64 to]))
  clear ht
  go_wp2_with fail
  refine CT2.out.mono ?_
  rintro e w2 ⟨rfl,rfl⟩
  have hb2:Below w1.heap.size w1 (w1.alloc (.cells #[.int .i64 to] 3)):=(Below.refl _ _).alloc (Nat.le_refl _) _
  have HB2:=hide (HB1.out.trans (hb2.mono HB1.out.size))
  have BX2:=hide (BX1.out.below_ hb2)
  obtain ⟨W2,hW2⟩:∃ X,w1.alloc (.cells #[.int .i64 to] 3)=X:=⟨_,rfl⟩
  rw [hW2] at HB2 BX2 ⊢
  obtain ⟨c1,c2,c3⟩:=BX2.out.rules
  have c4:=(c1 0).trans (show _=some (.int .i64 5) from rfl)
  have c5:=(c1 1).trans (show _=some (.int .i64 to) from rfl)
  have c6:=(c1 2).trans (show _=some (.int .i64 fr) from rfl)
  have c7:=(c1 4).trans (show _=some (.int .i64 n) from rfl)
  clear hb2 HB1 BX1 CT2 hW2 c1
  go_wp2_with fail
  go_ret
  exact ⟨rfl,HB2.out⟩
set_option maxRecDepth 100000 in
set_option maxHeartbeats 4000000 in
theorem wrong_5_fr (ht:badR to=false) (hf:badR fr=true):Calls Tryz.prog 38 #[.agg #[.int .i64 5,.int .i64 to,.int .i64 fr,.int .i64 at_,.int .i64 n]] w fun e w' => e=.returned (.int .i64 2) ∧ Below w.heap.size w w':=by
  have hb0:Below w.heap.size w (w.alloc (.cells #[.int .i64 5,.int .i64 to,.int .i64 fr,.int .i64 at_,.int .i64 n] 72)):=(Below.refl _ w).alloc (Nat.le_refl _) _
  have BX:=hide (Blk.new w 72 #[.int .i64 5,.int .i64 to,.int .i64 fr,.int .i64 at_,.int .i64 n])
  have CK:=known_any (w.alloc (.cells #[.int .i64 5,.int .i64 to,.int .i64 fr,.int .i64 at_,.int .i64 n] 72)) ⟨5,to,fr,at_,n⟩
  unfold DoV.cells at CK
  dsimp only at CK
  rw [show (decide ((1:Int) ≤ 5) && decide ((5:Int) ≤ 7))=true from rfl] at CK
  have HCK:=hide CK
  have HB0:=hide hb0
  clear CK hb0
  go_enter Tryz.func38,Tryz.ntmps38
  go_wp2_with fail
  refine HCK.out.mono ?_
  rintro e w1 ⟨rfl,hb1⟩
  obtain ⟨c1,c2,c3⟩:=(BX.out.below_ hb1).rules
  have c4:=(c1 0).trans (show _=some (.int .i64 5) from rfl)
  have c5:=(c1 1).trans (show _=some (.int .i64 to) from rfl)
  have c6:=(c1 2).trans (show _=some (.int .i64 fr) from rfl)
  have c7:=(c1 4).trans (show _=some (.int .i64 n) from rfl)
  have HB1:=hide (HB0.out.trans (hb1.mono HB0.out.size))
  have BX1:=hide (BX.out.below_ hb1)
  clear hb1 HB0 HCK BX c1
  have CT2:=hide (there_any (w1.alloc (.cells #[.int .i64 to] 3)) w1.heap.size to false ht (Blk.new w1 3 #[.int .i64 to]))
  clear ht
  go_wp2_with fail
  refine CT2.out.mono ?_
  rintro e w2 ⟨rfl,rfl⟩
  have hb2:Below w1.heap.size w1 (w1.alloc (.cells #[.int .i64 to] 3)):=(Below.refl _ _).alloc (Nat.le_refl _) _
  have HB2:=hide (HB1.out.trans (hb2.mono HB1.out.size))
  have BX2:=hide (BX1.out.below_ hb2)
  obtain ⟨W2,hW2⟩:∃ X,w1.alloc (.cells #[.int .i64 to] 3)=X:=⟨_,rfl⟩
  rw [hW2] at HB2 BX2 ⊢
  obtain ⟨c1,c2,c3⟩:=BX2.out.rules
  have c4:=(c1 0).trans (show _=some (.int .i64 5) from rfl)
  have c5:=(c1 1).trans (show _=some (.int .i64 to) from rfl)
  have c6:=(c1 2).trans (show _=some (.int .i64 fr) from rfl)
  have c7:=(c1 4).trans (show _=some (.int .i64 n) from rfl)
  clear hb2 HB1 BX1 CT2 hW2 c1
  have CT3:=hide (there_any (W2.alloc (.cells #[.int .i64 fr] 3)) W2.heap.size fr true hf (Blk.new W2 3 #[.int .i64 fr]))
  clear hf
  go_wp2_with fail
  refine CT3.out.mono ?_
  rintro e w3 ⟨rfl,rfl⟩
  have hb3:Below W2.heap.size W2 (W2.alloc (.cells #[.int .i64 fr] 3)):=(Below.refl _ _).alloc (Nat.le_refl _) _
  have HB3:=hide (HB2.out.trans (hb3.mono HB2.out.size))
  have BX3:=hide (BX2.out.below_ hb3)
  obtain ⟨W3,hW3⟩:∃ X,W2.alloc (.cells #[.int .i64 fr] 3)=X:=⟨_,rfl⟩
  rw [hW3] at HB3 BX3 ⊢
  obtain ⟨c1,c2,c3⟩:=BX3.out.rules
  have c4:=(c1 0).trans (show _=some (.int .i64 5) from rfl)
  have c5:=(c1 1).trans (show _=some (.int .i64 to) from rfl)
  have c6:=(c1 2).trans (show _=some (.int .i64 fr) from rfl)
  have c7:=(c1 4).trans (show _=some (.int .i64 n) from rfl)
  clear hb3 HB2 BX2 CT3 hW3 c1
  go_wp2_with fail
  go_ret
  exact ⟨rfl,HB3.out⟩
set_option maxRecDepth 100000 in
set_option maxHeartbeats 4000000 in
theorem wrong_5_ok (ht:badR to=false) (hf:badR fr=false):Calls Tryz.prog 38 #[.agg #[.int .i64 5,.int .i64 to,.int .i64 fr,.int .i64 at_,.int .i64 n]] w fun e w' => e=.returned (.int .i64 0) ∧ Below w.heap.size w w':=by
  have hb0:Below w.heap.size w (w.alloc (.cells #[.int .i64 5,.int .i64 to,.int .i64 fr,.int .i64 at_,.int .i64 n] 72)):=(Below.refl _ w).alloc (Nat.le_refl _) _
  have BX:=hide (Blk.new w 72 #[.int .i64 5,.int .i64 to,.int .i64 fr,.int .i64 at_,.int .i64 n])
  have CK:=known_any (w.alloc (.cells #[.int .i64 5,.int .i64 to,.int .i64 fr,.int .i64 at_,.int .i64 n] 72)) ⟨5,to,fr,at_,n⟩
  unfold DoV.cells at CK
  dsimp only at CK
  rw [show (decide ((1:Int) ≤ 5) && decide ((5:Int) ≤ 7))=true from rfl] at CK
  have HCK:=hide CK
  have HB0:=hide hb0
  clear CK hb0
  go_enter Tryz.func38,Tryz.ntmps38
  go_wp2_with fail
  refine HCK.out.mono ?_
  rintro e w1 ⟨rfl,hb1⟩
  obtain ⟨c1,c2,c3⟩:=(BX.out.below_ hb1).rules
  have c4:=(c1 0).trans (show _=some (.int .i64 5) from rfl)
  have c5:=(c1 1).trans (show _=some (.int .i64 to) from rfl)
  have c6:=(c1 2).trans (show _=some (.int .i64 fr) from rfl)
  have c7:=(c1 4).trans (show _=some (.int .i64 n) from rfl)
  have HB1:=hide (HB0.out.trans (hb1.mono HB0.out.size))
  have BX1:=hide (BX.out.below_ hb1)
  clear hb1 HB0 HCK BX c1
  have CT2:=hide (there_any (w1.alloc (.cells #[.int .i64 to] 3)) w1.heap.size to false ht (Blk.new w1 3 #[.int .i64 to]))
  clear ht
  go_wp2_with fail
  refine CT2.out.mono ?_
  rintro e w2 ⟨rfl,rfl⟩
  have hb2:Below w1.heap.size w1 (w1.alloc (.cells #[.int .i64 to] 3)):=(Below.refl _ _).alloc (Nat.le_refl _) _
  have HB2:=hide (HB1.out.trans (hb2.mono HB1.out.size))
  have BX2:=hide (BX1.out.below_ hb2)
  obtain ⟨W2,hW2⟩:∃ X,w1.alloc (.cells #[.int .i64 to] 3)=X:=⟨_,rfl⟩
  rw [hW2] at HB2 BX2 ⊢
  obtain ⟨c1,c2,c3⟩:=BX2.out.rules
  have c4:=(c1 0).trans (show _=some (.int .i64 5) from rfl)
  have c5:=(c1 1).trans (show _=some (.int .i64 to) from rfl)
  have c6:=(c1 2).trans (show _=some (.int .i64 fr) from rfl)
  have c7:=(c1 4).trans (show _=some (.int .i64 n) from rfl)
  clear hb2 HB1 BX1 CT2 hW2 c1
  have CT3:=hide (there_any (W2.alloc (.cells #[.int .i64 fr] 3)) W2.heap.size fr false hf (Blk.new W2 3 #[.int .i64 fr]))
  clear hf
  go_wp2_with fail
  refine CT3.out.mono ?_
  rintro e w3 ⟨rfl,rfl⟩
  have hb3:Below W2.heap.size W2 (W2.alloc (.cells #[.int .i64 fr] 3)):=(Below.refl _ _).alloc (Nat.le_refl _) _
  have HB3:=hide (HB2.out.trans (hb3.mono HB2.out.size))
  have BX3:=hide (BX2.out.below_ hb3)
  obtain ⟨W3,hW3⟩:∃ X,W2.alloc (.cells #[.int .i64 fr] 3)=X:=⟨_,rfl⟩
  rw [hW3] at HB3 BX3 ⊢
  obtain ⟨c1,c2,c3⟩:=BX3.out.rules
  have c4:=(c1 0).trans (show _=some (.int .i64 5) from rfl)
  have c5:=(c1 1).trans (show _=some (.int .i64 to) from rfl)
  have c6:=(c1 2).trans (show _=some (.int .i64 fr) from rfl)
  have c7:=(c1 4).trans (show _=some (.int .i64 n) from rfl)
  clear hb3 HB2 BX2 CT3 hW3 c1
  go_wp2_with fail
  go_ret
  exact ⟨rfl,HB3.out⟩
set_option maxRecDepth 100000 in
set_option maxHeartbeats 4000000 in
theorem wrong_6_to (ht:badR to=true):Calls Tryz.prog 38 #[.agg #[.int .i64 6,.int .i64 to,.int .i64 fr,.int .i64 at_,.int .i64 n]] w fun e w' => e=.returned (.int .i64 2) ∧ Below w.heap.size w w':=by
  have hb0:Below w.heap.size w (w.alloc (.cells #[.int .i64 6,.int .i64 to,.int .i64 fr,.int .i64 at_,.int .i64 n] 72)):=(Below.refl _ w).alloc (Nat.le_refl _) _
  have BX:=hide (Blk.new w 72 #[.int .i64 6,.int .i64 to,.int .i64 fr,.int .i64 at_,.int .i64 n])
  have CK:=known_any (w.alloc (.cells #[.int .i64 6,.int .i64 to,.int .i64 fr,.int .i64 at_,.int .i64 n] 72)) ⟨6,to,fr,at_,n⟩
  unfold DoV.cells at CK
  dsimp only at CK
  rw [show (decide ((1:Int) ≤ 6) && decide ((6:Int) ≤ 7))=true from rfl] at CK
  have HCK:=hide CK
  have HB0:=hide hb0
  clear CK hb0
  go_enter Tryz.func38,Tryz.ntmps38
  go_wp2_with fail
  refine HCK.out.mono ?_
  rintro e w1 ⟨rfl,hb1⟩
  obtain ⟨c1,c2,c3⟩:=(BX.out.below_ hb1).rules
  have c4:=(c1 0).trans (show _=some (.int .i64 6) from rfl)
  have c5:=(c1 1).trans (show _=some (.int .i64 to) from rfl)
  have c6:=(c1 2).trans (show _=some (.int .i64 fr) from rfl)
  have c7:=(c1 4).trans (show _=some (.int .i64 n) from rfl)
  have HB1:=hide (HB0.out.trans (hb1.mono HB0.out.size))
  have BX1:=hide (BX.out.below_ hb1)
  clear hb1 HB0 HCK BX c1
  have CT2:=hide (there_any (w1.alloc (.cells #[.int .i64 to] 3)) w1.heap.size to true ht (Blk.new w1 3 #[.int .i64 to]))
  clear ht
  go_wp2_with fail
  refine CT2.out.mono ?_
  rintro e w2 ⟨rfl,rfl⟩
  have hb2:Below w1.heap.size w1 (w1.alloc (.cells #[.int .i64 to] 3)):=(Below.refl _ _).alloc (Nat.le_refl _) _
  have HB2:=hide (HB1.out.trans (hb2.mono HB1.out.size))
  have BX2:=hide (BX1.out.below_ hb2)
  obtain ⟨W2,hW2⟩:∃ X,w1.alloc (.cells #[.int .i64 to] 3)=X:=⟨_,rfl⟩
  rw [hW2] at HB2 BX2 ⊢
  obtain ⟨c1,c2,c3⟩:=BX2.out.rules
  have c4:=(c1 0).trans (show _=some (.int .i64 6) from rfl)
  have c5:=(c1 1).trans (show _=some (.int .i64 to) from rfl)
  have c6:=(c1 2).trans (show _=some (.int .i64 fr) from rfl)
  have c7:=(c1 4).trans (show _=some (.int .i64 n) from rfl)
  clear hb2 HB1 BX1 CT2 hW2 c1
  go_wp2_with fail
  go_ret
  exact ⟨rfl,HB2.out⟩
set_option maxRecDepth 100000 in
set_option maxHeartbeats 4000000 in
theorem wrong_6_fr (ht:badR to=false) (hf:badR fr=true):Calls Tryz.prog 38 #[.agg #[.int .i64 6,.int .i64 to,.int .i64 fr,.int .i64 at_,.int .i64 n]] w fun e w' => e=.returned (.int .i64 2) ∧ Below w.heap.size w w':=by
  have hb0:Below w.heap.size w (w.alloc (.cells #[.int .i64 6,.int .i64 to,.int .i64 fr,.int .i64 at_,.int .i64 n] 72)):=(Below.refl _ w).alloc (Nat.le_refl _) _
  have BX:=hide (Blk.new w 72 #[.int .i64 6,.int .i64 to,.int .i64 fr,.int .i64 at_,.int .i64 n])
  have CK:=known_any (w.alloc (.cells #[.int .i64 6,.int .i64 to,.int .i64 fr,.int .i64 at_,.int .i64 n] 72)) ⟨6,to,fr,at_,n⟩
  unfold DoV.cells at CK
  dsimp only at CK
  rw [show (decide ((1:Int) ≤ 6) && decide ((6:Int) ≤ 7))=true from rfl] at CK
  have HCK:=hide CK
  have HB0:=hide hb0
  clear CK hb0
  go_enter Tryz.func38,Tryz.ntmps38
  go_wp2_with fail
  refine HCK.out.mono ?_
  rintro e w1 ⟨rfl,hb1⟩
  obtain ⟨c1,c2,c3⟩:=(BX.out.below_ hb1).rules
  have c4:=(c1 0).trans (show _=some (.int .i64 6) from rfl)
  have c5:=(c1 1).trans (show _=some (.int .i64 to) from rfl)
  have c6:=(c1 2).trans (show _=some (.int .i64 fr) from rfl)
  have c7:=(c1 4).trans (show _=some (.int .i64 n) from rfl)
  have HB1:=hide (HB0.out.trans (hb1.mono HB0.out.size))
  have BX1:=hide (BX.out.below_ hb1)
  clear hb1 HB0 HCK BX c1
  have CT2:=hide (there_any (w1.alloc (.cells #[.int .i64 to] 3)) w1.heap.size to false ht (Blk.new w1 3 #[.int .i64 to]))
  clear ht
  go_wp2_with fail
  refine CT2.out.mono ?_
  rintro e w2 ⟨rfl,rfl⟩
  have hb2:Below w1.heap.size w1 (w1.alloc (.cells #[.int .i64 to] 3)):=(Below.refl _ _).alloc (Nat.le_refl _) _
  have HB2:=hide (HB1.out.trans (hb2.mono HB1.out.size))
  have BX2:=hide (BX1.out.below_ hb2)
  obtain ⟨W2,hW2⟩:∃ X,w1.alloc (.cells #[.int .i64 to] 3)=X:=⟨_,rfl⟩
  rw [hW2] at HB2 BX2 ⊢
  obtain ⟨c1,c2,c3⟩:=BX2.out.rules
  have c4:=(c1 0).trans (show _=some (.int .i64 6) from rfl)
  have c5:=(c1 1).trans (show _=some (.int .i64 to) from rfl)
  have c6:=(c1 2).trans (show _=some (.int .i64 fr) from rfl)
  have c7:=(c1 4).trans (show _=some (.int .i64 n) from rfl)
  clear hb2 HB1 BX1 CT2 hW2 c1
  have CT3:=hide (there_any (W2.alloc (.cells #[.int .i64 fr] 3)) W2.heap.size fr true hf (Blk.new W2 3 #[.int .i64 fr]))
  clear hf
  go_wp2_with fail
  refine CT3.out.mono ?_
  rintro e w3 ⟨rfl,rfl⟩
  have hb3:Below W2.heap.size W2 (W2.alloc (.cells #[.int .i64 fr] 3)):=(Below.refl _ _).alloc (Nat.le_refl _) _
  have HB3:=hide (HB2.out.trans (hb3.mono HB2.out.size))
  have BX3:=hide (BX2.out.below_ hb3)
  obtain ⟨W3,hW3⟩:∃ X,W2.alloc (.cells #[.int .i64 fr] 3)=X:=⟨_,rfl⟩
  rw [hW3] at HB3 BX3 ⊢
  obtain ⟨c1,c2,c3⟩:=BX3.out.rules
  have c4:=(c1 0).trans (show _=some (.int .i64 6) from rfl)
  have c5:=(c1 1).trans (show _=some (.int .i64 to) from rfl)
  have c6:=(c1 2).trans (show _=some (.int .i64 fr) from rfl)
  have c7:=(c1 4).trans (show _=some (.int .i64 n) from rfl)
  clear hb3 HB2 BX2 CT3 hW3 c1
  go_wp2_with fail
  go_ret
  exact ⟨rfl,HB3.out⟩
set_option maxRecDepth 100000 in
set_option maxHeartbeats 4000000 in
theorem wrong_6_ok (ht:badR to=false) (hf:badR fr=false):Calls Tryz.prog 38 #[.agg #[.int .i64 6,.int .i64 to,.int .i64 fr,.int .i64 at_,.int .i64 n]] w fun e w' => e=.returned (.int .i64 0) ∧ Below w.heap.size w w':=by
  have hb0:Below w.heap.size w (w.alloc (.cells #[.int .i64 6,.int .i64 to,.int .i64 fr,.int .i64 at_,.int .i64 n] 72)):=(Below.refl _ w).alloc (Nat.le_refl _) _
  have BX:=hide (Blk.new w 72 #[.int .i64 6,.int .i64 to,.int .i64 fr,.int .i64 at_,.int .i64 n])
  have CK:=known_any (w.alloc (.cells #[.int .i64 6,.int .i64 to,.int .i64 fr,.int .i64 at_,.int .i64 n] 72)) ⟨6,to,fr,at_,n⟩
  unfold DoV.cells at CK
  dsimp only at CK
  rw [show (decide ((1:Int) ≤ 6) && decide ((6:Int) ≤ 7))=true from rfl] at CK
  have HCK:=hide CK
  have HB0:=hide hb0
  clear CK hb0
  go_enter Tryz.func38,Tryz.ntmps38
  go_wp2_with fail
  refine HCK.out.mono ?_
  rintro e w1 ⟨rfl,hb1⟩
  obtain ⟨c1,c2,c3⟩:=(BX.out.below_ hb1).rules
  have c4:=(c1 0).trans (show _=some (.int .i64 6) from rfl)
  have c5:=(c1 1).trans (show _=some (.int .i64 to) from rfl)
  have c6:=(c1 2).trans (show _=some (.int .i64 fr) from rfl)
  have c7:=(c1 4).trans (show _=some (.int .i64 n) from rfl)
  have HB1:=hide (HB0.out.trans (hb1.mono HB0.out.size))
  have BX1:=hide (BX.out.below_ hb1)
  clear hb1 HB0 HCK BX c1
  have CT2:=hide (there_any (w1.alloc (.cells #[.int .i64 to] 3)) w1.heap.size to false ht (Blk.new w1 3 #[.int .i64 to]))
  clear ht
  go_wp2_with fail
  refine CT2.out.mono ?_
  rintro e w2 ⟨rfl,rfl⟩
  have hb2:Below w1.heap.size w1 (w1.alloc (.cells #[.int .i64 to] 3)):=(Below.refl _ _).alloc (Nat.le_refl _) _
  have HB2:=hide (HB1.out.trans (hb2.mono HB1.out.size))
  have BX2:=hide (BX1.out.below_ hb2)
  obtain ⟨W2,hW2⟩:∃ X,w1.alloc (.cells #[.int .i64 to] 3)=X:=⟨_,rfl⟩
  rw [hW2] at HB2 BX2 ⊢
  obtain ⟨c1,c2,c3⟩:=BX2.out.rules
  have c4:=(c1 0).trans (show _=some (.int .i64 6) from rfl)
  have c5:=(c1 1).trans (show _=some (.int .i64 to) from rfl)
  have c6:=(c1 2).trans (show _=some (.int .i64 fr) from rfl)
  have c7:=(c1 4).trans (show _=some (.int .i64 n) from rfl)
  clear hb2 HB1 BX1 CT2 hW2 c1
  have CT3:=hide (there_any (W2.alloc (.cells #[.int .i64 fr] 3)) W2.heap.size fr false hf (Blk.new W2 3 #[.int .i64 fr]))
  clear hf
  go_wp2_with fail
  refine CT3.out.mono ?_
  rintro e w3 ⟨rfl,rfl⟩
  have hb3:Below W2.heap.size W2 (W2.alloc (.cells #[.int .i64 fr] 3)):=(Below.refl _ _).alloc (Nat.le_refl _) _
  have HB3:=hide (HB2.out.trans (hb3.mono HB2.out.size))
  have BX3:=hide (BX2.out.below_ hb3)
  obtain ⟨W3,hW3⟩:∃ X,W2.alloc (.cells #[.int .i64 fr] 3)=X:=⟨_,rfl⟩
  rw [hW3] at HB3 BX3 ⊢
  obtain ⟨c1,c2,c3⟩:=BX3.out.rules
  have c4:=(c1 0).trans (show _=some (.int .i64 6) from rfl)
  have c5:=(c1 1).trans (show _=some (.int .i64 to) from rfl)
  have c6:=(c1 2).trans (show _=some (.int .i64 fr) from rfl)
  have c7:=(c1 4).trans (show _=some (.int .i64 n) from rfl)
  clear hb3 HB2 BX2 CT3 hW3 c1
  go_wp2_with fail
  go_ret
  exact ⟨rfl,HB3.out⟩
set_option maxRecDepth 100000 in
set_option maxHeartbeats 4000000 in
theorem wrong_7_fr (hf:badR fr=true):Calls Tryz.prog 38 #[.agg #[.int .i64 7,.int .i64 to,.int .i64 fr,.int .i64 at_,.int .i64 n]] w fun e w' => e=.returned (.int .i64 2) ∧ Below w.heap.size w w':=by
  have hb0:Below w.heap.size w (w.alloc (.cells #[.int .i64 7,.int .i64 to,.int .i64 fr,.int .i64 at_,.int .i64 n] 72)):=(Below.refl _ w).alloc (Nat.le_refl _) _
  have BX:=hide (Blk.new w 72 #[.int .i64 7,.int .i64 to,.int .i64 fr,.int .i64 at_,.int .i64 n])
  have CK:=known_any (w.alloc (.cells #[.int .i64 7,.int .i64 to,.int .i64 fr,.int .i64 at_,.int .i64 n] 72)) ⟨7,to,fr,at_,n⟩
  unfold DoV.cells at CK
  dsimp only at CK
  rw [show (decide ((1:Int) ≤ 7) && decide ((7:Int) ≤ 7))=true from rfl] at CK
  have HCK:=hide CK
  have HB0:=hide hb0
  clear CK hb0
  go_enter Tryz.func38,Tryz.ntmps38
  go_wp2_with fail
  refine HCK.out.mono ?_
  rintro e w1 ⟨rfl,hb1⟩
  obtain ⟨c1,c2,c3⟩:=(BX.out.below_ hb1).rules
  have c4:=(c1 0).trans (show _=some (.int .i64 7) from rfl)
  have c5:=(c1 1).trans (show _=some (.int .i64 to) from rfl)
  have c6:=(c1 2).trans (show _=some (.int .i64 fr) from rfl)
  have c7:=(c1 4).trans (show _=some (.int .i64 n) from rfl)
  have HB1:=hide (HB0.out.trans (hb1.mono HB0.out.size))
  have BX1:=hide (BX.out.below_ hb1)
  clear hb1 HB0 HCK BX c1
  have CT3:=hide (there_any (w1.alloc (.cells #[.int .i64 fr] 3)) w1.heap.size fr true hf (Blk.new w1 3 #[.int .i64 fr]))
  clear hf
  go_wp2_with fail
  refine CT3.out.mono ?_
  rintro e w3 ⟨rfl,rfl⟩
  have hb3:Below w1.heap.size w1 (w1.alloc (.cells #[.int .i64 fr] 3)):=(Below.refl _ _).alloc (Nat.le_refl _) _
  have HB3:=hide (HB1.out.trans (hb3.mono HB1.out.size))
  have BX3:=hide (BX1.out.below_ hb3)
  obtain ⟨W3,hW3⟩:∃ X,w1.alloc (.cells #[.int .i64 fr] 3)=X:=⟨_,rfl⟩
  rw [hW3] at HB3 BX3 ⊢
  obtain ⟨c1,c2,c3⟩:=BX3.out.rules
  have c4:=(c1 0).trans (show _=some (.int .i64 7) from rfl)
  have c5:=(c1 1).trans (show _=some (.int .i64 to) from rfl)
  have c6:=(c1 2).trans (show _=some (.int .i64 fr) from rfl)
  have c7:=(c1 4).trans (show _=some (.int .i64 n) from rfl)
  clear hb3 HB1 BX1 CT3 hW3 c1
  go_wp2_with fail
  go_ret
  exact ⟨rfl,HB3.out⟩
set_option maxRecDepth 100000 in
set_option maxHeartbeats 4000000 in
theorem wrong_7_ok (hf:badR fr=false):Calls Tryz.prog 38 #[.agg #[.int .i64 7,.int .i64 to,.int .i64 fr,.int .i64 at_,.int .i64 n]] w fun e w' => e=.returned (.int .i64 0) ∧ Below w.heap.size w w':=by
  have hb0:Below w.heap.size w (w.alloc (.cells #[.int .i64 7,.int .i64 to,.int .i64 fr,.int .i64 at_,.int .i64 n] 72)):=(Below.refl _ w).alloc (Nat.le_refl _) _
  have BX:=hide (Blk.new w 72 #[.int .i64 7,.int .i64 to,.int .i64 fr,.int .i64 at_,.int .i64 n])
  have CK:=known_any (w.alloc (.cells #[.int .i64 7,.int .i64 to,.int .i64 fr,.int .i64 at_,.int .i64 n] 72)) ⟨7,to,fr,at_,n⟩
  unfold DoV.cells at CK
  dsimp only at CK
  rw [show (decide ((1:Int) ≤ 7) && decide ((7:Int) ≤ 7))=true from rfl] at CK
  have HCK:=hide CK
  have HB0:=hide hb0
  clear CK hb0
  go_enter Tryz.func38,Tryz.ntmps38
  go_wp2_with fail
  refine HCK.out.mono ?_
  rintro e w1 ⟨rfl,hb1⟩
  obtain ⟨c1,c2,c3⟩:=(BX.out.below_ hb1).rules
  have c4:=(c1 0).trans (show _=some (.int .i64 7) from rfl)
  have c5:=(c1 1).trans (show _=some (.int .i64 to) from rfl)
  have c6:=(c1 2).trans (show _=some (.int .i64 fr) from rfl)
  have c7:=(c1 4).trans (show _=some (.int .i64 n) from rfl)
  have HB1:=hide (HB0.out.trans (hb1.mono HB0.out.size))
  have BX1:=hide (BX.out.below_ hb1)
  clear hb1 HB0 HCK BX c1
  have CT3:=hide (there_any (w1.alloc (.cells #[.int .i64 fr] 3)) w1.heap.size fr false hf (Blk.new w1 3 #[.int .i64 fr]))
  clear hf
  go_wp2_with fail
  refine CT3.out.mono ?_
  rintro e w3 ⟨rfl,rfl⟩
  have hb3:Below w1.heap.size w1 (w1.alloc (.cells #[.int .i64 fr] 3)):=(Below.refl _ _).alloc (Nat.le_refl _) _
  have HB3:=hide (HB1.out.trans (hb3.mono HB1.out.size))
  have BX3:=hide (BX1.out.below_ hb3)
  obtain ⟨W3,hW3⟩:∃ X,w1.alloc (.cells #[.int .i64 fr] 3)=X:=⟨_,rfl⟩
  rw [hW3] at HB3 BX3 ⊢
  obtain ⟨c1,c2,c3⟩:=BX3.out.rules
  have c4:=(c1 0).trans (show _=some (.int .i64 7) from rfl)
  have c5:=(c1 1).trans (show _=some (.int .i64 to) from rfl)
  have c6:=(c1 2).trans (show _=some (.int .i64 fr) from rfl)
  have c7:=(c1 4).trans (show _=some (.int .i64 n) from rfl)
  clear hb3 HB1 BX1 CT3 hW3 c1
  go_wp2_with fail
  go_ret
  exact ⟨rfl,HB3.out⟩
end
theorem wrong_any (w:World) (d:DoV):Calls Tryz.prog 38 #[.agg d.cells] w fun e w' => e=.returned (.int .i64 (wrongM d)) ∧ Below w.heap.size w w':=by
  obtain ⟨k,to,fr,at_,n⟩:=d
  unfold DoV.cells wrongM
  dsimp only
  by_cases h1:k < 1
  · rw [if_pos (.inl h1)]; exact wrong_lo w to fr at_ n k h1
  by_cases h2:7 < k
  · rw [if_pos (.inr h2)]; exact wrong_hi w to fr at_ n k h2
  rw [if_neg (fun h => h.elim h1 h2)]
  rcases (show k=1 ∨ k=2 ∨ k=3 ∨ k=4 ∨ k=5 ∨ k=6 ∨ k=7 from by omega) with rfl | rfl | rfl | rfl | rfl | rfl | rfl
  · cases ht:badR to with
    | true => rw [if_pos (by simp)]; exact wrong_1_to w to fr at_ n ht
    | false =>
      rw [if_neg (by simp)]
      by_cases h3:n < 0
      · rw [if_pos (by simp [h3])]; exact wrong_1_lo w to fr at_ n ht h3
      by_cases h4:4 < n
      · rw [if_pos (by simp [h4])]; exact wrong_1_hi w to fr at_ n ht h4
      · rw [if_neg (by simp; omega),if_neg (by simp)]; exact wrong_1_ok w to fr at_ n ht (by omega) (by omega)
  · cases ht:badR to with
    | true => rw [if_pos (by simp)]; exact wrong_2_to w to fr at_ n ht
    | false =>
      rw [if_neg (by simp),if_neg (by simp)]
      by_cases h3:n < -4611686018427387904
      · rw [if_pos (by simp [h3])]; exact wrong_2_lo w to fr at_ n ht h3
      by_cases h4:4611686018427387903 < n
      · rw [if_pos (by simp [h4])]; exact wrong_2_hi w to fr at_ n ht h4
      · rw [if_neg (by simp; omega)]; exact wrong_2_ok w to fr at_ n ht (by omega) (by omega)
  · cases ht:badR to with
    | true => rw [if_pos (by simp)]; exact wrong_3_to w to fr at_ n ht
    | false =>
      cases hf:badR fr with
      | true => rw [if_pos (by simp)]; exact wrong_3_fr w to fr at_ n ht hf
      | false => rw [if_neg (by simp),if_neg (by simp),if_neg (by simp)]; exact wrong_3_ok w to fr at_ n ht hf
  · cases ht:badR to with
    | true => rw [if_pos (by simp)]; exact wrong_4_to w to fr at_ n ht
    | false =>
      cases hf:badR fr with
      | true => rw [if_pos (by simp)]; exact wrong_4_fr w to fr at_ n ht hf
      | false => rw [if_neg (by simp),if_neg (by simp),if_neg (by simp)]; exact wrong_4_ok w to fr at_ n ht hf
  · cases ht:badR to with
    | true => rw [if_pos (by simp)]; exact wrong_5_to w to fr at_ n ht
    | false =>
      cases hf:badR fr with
      | true => rw [if_pos (by simp)]; exact wrong_5_fr w to fr at_ n ht hf
      | false => rw [if_neg (by simp),if_neg (by simp),if_neg (by simp)]; exact wrong_5_ok w to fr at_ n ht hf
  · cases ht:badR to with
    | true => rw [if_pos (by simp)]; exact wrong_6_to w to fr at_ n ht
    | false =>
      cases hf:badR fr with
      | true => rw [if_pos (by simp)]; exact wrong_6_fr w to fr at_ n ht hf
      | false => rw [if_neg (by simp),if_neg (by simp),if_neg (by simp)]; exact wrong_6_ok w to fr at_ n ht hf
  · cases hf:badR fr with
    | true => rw [if_pos (by simp)]; exact wrong_7_fr w to fr at_ n hf
    | false => rw [if_neg (by simp),if_neg (by simp),if_neg (by simp)]; exact wrong_7_ok w to fr at_ n hf
end Go.Proofs.YtjphckfbbiehdaaGreat
