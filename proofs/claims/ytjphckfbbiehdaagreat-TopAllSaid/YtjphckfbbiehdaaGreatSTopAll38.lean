/- Part of a proof. -/
import Derived.Test.YtjphckfbbiehdaaGreatSTopAll20
import Derived.Test.YtjphckfbbiehdaaGreatSTopAll22
import Derived.Test.YtjphckfbbiehdaaGreatSTopAll26
import Derived.Test.YtjphckfbbiehdaaGreatSTopAll25
import Derived.Test.YtjphckfbbiehdaaGreatSTopAll27
import Derived.Test.YtjphckfbbiehdaaGreatSTopAll32
import Derived.Test.YtjphckfbbiehdaaGreatSTopAll31
import Derived.Test.YtjphckfbbiehdaaGreatSTopAll37
import Derived.Test.YtjphckfbbiehdaaGreatSTopAll36
import Derived.Test.YtjphckfbbiehdaaGreatSTopAll5
import Derived.Deep.RegionHeld3
import Derived.Laws.StructEq
import Derived.Test.YtjphckfbbiehdaaGreatSTopAll0
import Derived.Test.YtjphckfbbiehdaaGreatSTopAll1
set_option linter.unusedSimpArgs false
set_option linter.unusedVariables false
namespace Go.Proofs.YtjphckfbbiehdaaGreat
open Go.RowKit
theorem gcheck_numT {nO nR:Nat} {obs:List Ob} {roots:List Val} (h:gcheck nO nR obs roots=0):∀ v ∈ allVals obs roots,intOk v:=by
  unfold gcheck at h
  split at h
  · omega
  split at h
  · omega
  split at h
  · omega
  rename_i h3
  intro v hv hb
  have h5:(allVals obs roots).any badRange=false:=by
    cases h6:(allVals obs roots).any badRange with
    | false => rfl
    | true => exact absurd h6 h3
  have h6:=List.any_eq_false.1 h5 v hv
  unfold badRange at h6
  rw [hb] at h6
  simp at h6
  exact ⟨by omega,by omega⟩
theorem rangeI_nodupT (n:Nat):(rangeI n).Nodup:=List.pairwise_map.2 (List.nodup_range.imp fun h e => h (by omega))
def sgM (obs:List Ob) (roots:List Val) (nR:Nat):MSt:=⟨padR roots nR,obs.map Ob.fields⟩
theorem sg_ok {w:World} {AO AR:Option Addr} {nO nR:Nat} {obs:List Ob} {roots:List Val} (hO:ObsRd w (fun _ => True) AO nO obs) (hR:Rd w (fun _ => True) 2 AR nR (vals roots)) (hx:gcheck nO nR obs roots=0) :
    MOk (sgM obs roots nR) ∧ (sgM obs roots nR).objs.length=nO ∧ nO ≤ 24:=by
  have hG:=gok_of hO hx
  have h1:=hG.vg
  have h2:=hG.vr
  have h3:=hG.fs
  exact ⟨⟨padR_len roots nR (by have:=roots_len hR; omega) hG.nR_,padR_ok h2 nR,h1,h3⟩,hG.len,hG.nO_⟩
theorem sg_nm {nO nR:Nat} {obs:List Ob} {roots:List Val} (hx:gcheck nO nR obs roots=0):RpNm (rp0 (sgM obs roots nR)):=by
  have h1:=gcheck_numT hx
  refine ⟨fun v hv => ?_,fun i fs hf v hv => ?_,rangeI_nodupT _⟩
  · rcases List.mem_append.1 (show v ∈ roots.take nR ++ List.replicate (8 - nR) (false,0) from hv) with h2 | h2
    · exact h1 v (List.mem_append_left _ (List.mem_of_mem_take h2))
    · rw [(List.mem_replicate.1 h2).2]
      intro _
      exact ⟨by decide,by decide⟩
  · have h2:=List.mem_of_getElem? ((rp0_fld _ i fs).1 hf)
    obtain ⟨o,ho,rfl⟩:=List.mem_map.1 h2
    exact h1 v (List.mem_append_right _ (List.mem_flatMap.2 ⟨o,ho,hv⟩))
def SomeOut (w w':World) (E:Int) (A:Option Addr) (n nd:Nat) (os:List OutV):Prop:=Below w.heap.size w w' ∧ (E=0 → n=nd ∧ Rd w' (fun g => w.heap.size ≤ g) 3 A n (outsV os)) ∧ (E ≠ 0 → n=0)
theorem idealT_some (w:World) (AO AR Ad:Option Addr) (nO cO nR cR nd cd:Nat) (obs:List Ob) (roots:List Val) (ds:List DoV) (hO:ObsRd w (fun _ => True) AO nO obs) (hR:Rd w (fun _ => True) 2 AR nR (vals roots)) (hcp:∀ o ∈ obs,o.A=none → o.c=0) (hD:Rd w (fun _ => True) 5 Ad nd (dosV ds)) :
    Calls Tryz.prog 4 #[.agg #[.slice AO nO cO,.slice AR nR cR],.slice Ad nd cd] w fun e w' => ∃ A n c B m d B2 m2 d2,e=.returned (.tuple #[.slice A n c,.agg #[.slice B m d,.slice B2 m2 d2],.int .i64 (playErr nO nR nd obs roots)]) ∧ SomeOut w w' (playErr nO nR nd obs roots) A n nd (runM ds (sgM obs roots nR)).1:=by
  by_cases hz:playErr nO nR nd obs roots=0
  · have hx:gcheck nO nR obs roots=0:=by
      unfold playErr at hz
      split at hz
      · rename_i h; exact absurd hz h
      · rename_i h; omega
    refine (idealPlay_ok w AO AR Ad nO cO nR cR nd cd obs roots _ ds rfl hO hR hcp hz (sg_ok hO hR hx).1 hD).mono ?_
    rintro e w' ⟨A,c,v',rfl,hb,hr,hg⟩
    obtain ⟨B,m,d,B2,m2,d2,_,rfl,-,-,-⟩:=hg.ex
    rw [hz]
    exact ⟨A,nd,c,B,m,d,B2,m2,d2,rfl,hb,fun _ => ⟨rfl,hr⟩,fun h => absurd rfl h⟩
  · refine (idealPlay_no w AO AR Ad nO cO nR cR nd cd obs roots hO hR hz).mono ?_
    rintro e w' ⟨rfl,hb⟩
    exact ⟨none,0,0,none,0,0,none,0,0,rfl,hb,fun h => absurd h hz,fun _ => rfl⟩
theorem cntT_some (w:World) (AO AR Ad:Option Addr) (nO cO nR cR nd cd:Nat) (obs:List Ob) (roots:List Val) (ds:List DoV) (R:Int) (hO:ObsRd w (fun _ => True) AO nO obs) (hR:Rd w (fun _ => True) 2 AR nR (vals roots)) (hcp:∀ o ∈ obs,o.A=none → o.c=0) (hD:Rd w (fun _ => True) 5 Ad nd (dosV ds)) :
    Calls Tryz.prog 6 #[.agg #[.slice AO nO cO,.slice AR nR cR],.int .i64 R,.slice Ad nd cd] w fun e w' => ∃ A n c A2 n2 c2 A3 n3 c3,e=.returned (.tuple #[.agg #[.slice A n c,.slice A2 n2 c2,.slice A3 n3 c3],.int .i64 (cntErr nO nR nd obs roots R)]) ∧ SomeOut w w' (cntErr nO nR nd obs roots R) A n nd (cnRun R ds (cnBeg (sgM obs roots nR) (sgM obs roots nR).objs.length)).1:=by
  by_cases hz:cntErr nO nR nd obs roots R=0
  · have hx:gcheck nO nR obs roots=0:=by
      unfold cntErr at hz
      split at hz
      · rename_i h; exact absurd hz h
      · rename_i h; omega
    obtain ⟨h1,h2,h3⟩:=sg_ok hO hR hx
    have h:=countPlay_ok w AO AR Ad nO cO nR cR nd cd obs roots _ ds R rfl hO hR hcp hz h1 hD
    rw [h2]
    refine h.mono ?_
    rintro e w' ⟨A,c,A2,n2,c2,A3,n3,c3,rfl,hb,hr,-⟩
    rw [hz]
    exact ⟨A,nd,c,A2,n2,c2,A3,n3,c3,rfl,hb,fun _ => ⟨rfl,hr⟩,fun h => absurd rfl h⟩
  · refine (countPlay_no w AO AR Ad nO cO nR cR nd cd obs roots R hO hR hz).mono ?_
    rintro e w' ⟨rfl,hb⟩
    exact ⟨none,0,0,none,0,0,none,0,0,rfl,hb,fun h => absurd h hz,fun _ => rfl⟩
theorem triT_some (w:World) (AO AR Ad:Option Addr) (nO cO nR cR nd cd:Nat) (obs:List Ob) (roots:List Val) (ds:List DoV) (b:Int) (hO:ObsRd w (fun _ => True) AO nO obs) (hR:Rd w (fun _ => True) 2 AR nR (vals roots)) (hcp:∀ o ∈ obs,o.A=none → o.c=0) (hD:Rd w (fun _ => True) 5 Ad nd (dosV ds)) :
    Calls Tryz.prog 7 #[.agg #[.slice AO nO cO,.slice AR nR cR],.int .i64 b,.slice Ad nd cd] w fun e w' => ∃ A n c A2 n2 c2 A3 n3 c3,e=.returned (.tuple #[.agg #[.slice A n c,.slice A2 n2 c2,.slice A3 n3 c3],.int .i64 (triErr nO nR nd obs roots b)]) ∧ SomeOut w w' (triErr nO nR nd obs roots b) A n nd (coRun b.toNat ds (co0 (sgM obs roots nR))).1:=by
  by_cases hz:triErr nO nR nd obs roots b=0
  · obtain ⟨hx,hb⟩:gcheck nO nR obs roots=0 ∧ ¬ (b < 1 ∨ 3 < b):=by
      unfold triErr at hz
      split at hz
      · rename_i h; exact absurd hz h
      · rename_i h
        split at hz
        · omega
        · rename_i hb; exact ⟨by omega,hb⟩
    obtain ⟨q,rfl,hq,_⟩:=barV_iface hb
    rw [Int.toNat_natCast]
    refine (triPlay_ok w AO AR Ad nO cO nR cR nd cd obs roots _ ds q hq rfl hO hR hcp hz (sg_ok hO hR hx).1 hD).mono ?_
    rintro e w' ⟨A,c,A2,n2,c2,A3,n3,c3,rfl,hb,hr,-⟩
    rw [hz]
    exact ⟨A,nd,c,A2,n2,c2,A3,n3,c3,rfl,hb,fun _ => ⟨rfl,hr⟩,fun h => absurd rfl h⟩
  · refine (triPlay_no w AO AR Ad nO cO nR cR nd cd obs roots b hO hR hz).mono ?_
    rintro e w' ⟨rfl,hb⟩
    exact ⟨none,0,0,none,0,0,none,0,0,rfl,hb,fun h => absurd h hz,fun _ => rfl⟩
theorem repT_some (w:World) (AO AR Ad:Option Addr) (nO cO nR cR nd cd:Nat) (obs:List Ob) (roots:List Val) (ds:List DoV) (hO:ObsRd w (fun _ => True) AO nO obs) (hR:Rd w (fun _ => True) 2 AR nR (vals roots)) (hcp:∀ o ∈ obs,o.A=none → o.c=0) (hD:Rd w (fun _ => True) 5 Ad nd (dosV ds)) :
    Calls Tryz.prog 8 #[.agg #[.slice AO nO cO,.slice AR nR cR],.slice Ad nd cd] w fun e w' => ∃ A n c A2 n2 c2 x y z,e=.returned (.tuple #[.agg #[.slice A n c,.slice A2 n2 c2,.int .i64 x,.int .i64 y,.int .i64 z],.int .i64 (repErr nO nR nd obs roots)]) ∧ SomeOut w w' (repErr nO nR nd obs roots) A n nd (rpRun ds (rp0 (sgM obs roots nR))).1:=by
  by_cases hz:repErr nO nR nd obs roots=0
  · have hx:gcheck nO nR obs roots=0:=by
      unfold repErr at hz
      split at hz
      · rename_i h; exact absurd hz h
      · rename_i h; omega
    refine (repPlay_ok w AO AR Ad nO cO nR cR nd cd obs roots _ ds rfl hO hR hcp hz (sg_ok hO hR hx).1 (sg_nm hx) hD).mono ?_
    rintro e w' ⟨A,c,A2,n2,c2,rfl,hb,hr,-⟩
    rw [hz]
    exact ⟨A,nd,c,A2,n2,c2,_,_,_,rfl,hb,fun _ => ⟨rfl,hr⟩,fun h => absurd rfl h⟩
  · refine (repPlay_no w AO AR Ad nO cO nR cR nd cd obs roots hO hR hz).mono ?_
    rintro e w' ⟨rfl,hb⟩
    exact ⟨none,0,0,none,0,0,0,0,0,rfl,hb,fun h => absurd h hz,fun _ => rfl⟩
theorem genT_some (w:World) (AO AR Ad:Option Addr) (nO cO nR cR nd cd:Nat) (obs:List Ob) (roots:List Val) (ds:List DoV) (R:Int) (hO:ObsRd w (fun _ => True) AO nO obs) (hR:Rd w (fun _ => True) 2 AR nR (vals roots)) (hcp:∀ o ∈ obs,o.A=none → o.c=0) (hD:Rd w (fun _ => True) 5 Ad nd (dosV ds)) :
    Calls Tryz.prog 9 #[.agg #[.slice AO nO cO,.slice AR nR cR],.int .i64 R,.slice Ad nd cd] w fun e w' => ∃ A n c A2 n2 c2 A3 n3 c3,e=.returned (.tuple #[.agg #[.slice A n c,.slice A2 n2 c2,.slice A3 n3 c3],.int .i64 (genErr nO nR nd obs roots R)]) ∧ SomeOut w w' (genErr nO nR nd obs roots R) A n nd (gnRun R.toNat ds (gn0 (sgM obs roots nR))).1:=by
  by_cases hz:genErr nO nR nd obs roots R=0
  · obtain ⟨hx,hb⟩:gcheck nO nR obs roots=0 ∧ ¬ (R < 1 ∨ 64 < R):=by
      unfold genErr at hz
      split at hz
      · rename_i h; exact absurd hz h
      · rename_i h
        split at hz
        · omega
        · rename_i hb; exact ⟨by omega,hb⟩
    obtain ⟨q,rfl⟩:∃ q:Nat,R=(q:Int):=⟨R.toNat,by omega⟩
    rw [Int.toNat_natCast]
    refine (genPlay_ok w AO AR Ad nO cO nR cR nd cd q obs roots _ ds rfl hO hR hcp hz (sg_ok hO hR hx).1 hD).mono ?_
    rintro e w' ⟨A,c,A2,n2,c2,A3,n3,c3,rfl,hb,hr,-⟩
    rw [hz]
    exact ⟨A,nd,c,A2,n2,c2,A3,n3,c3,rfl,hb,fun _ => ⟨rfl,hr⟩,fun h => absurd rfl h⟩
  · refine (genPlay_no w AO AR Ad nO cO nR cR nd cd obs roots R hO hR hz).mono ?_
    rintro e w' ⟨rfl,hb⟩
    exact ⟨none,0,0,none,0,0,none,0,0,rfl,hb,fun h => absurd h hz,fun _ => rfl⟩
theorem all_told {w:World} {AO AR:Option Addr} {nO nR nd:Nat} {obs:List Ob} {roots:List Val} {ds:List DoV} {b R:Int} (hO:ObsRd w (fun _ => True) AO nO obs) (hR:Rd w (fun _ => True) 2 AR nR (vals roots)) (hnd:ds.length=nd) (ht:triErr nO nR nd obs roots b=0) :
    ((∀ o ∈ (coRun b.toNat ds (co0 (sgM obs roots nR))).1,o.code ≠ 6) → keptV ds (coRun b.toNat ds (co0 (sgM obs roots nR))).1=(runM (plainV ds) (sgM obs roots nR)).1) ∧
    ((∀ o ∈ (rpRun ds (rp0 (sgM obs roots nR))).1,o.code ≠ 6) → keptV ds (rpRun ds (rp0 (sgM obs roots nR))).1=(runM (plainV ds) (sgM obs roots nR)).1) ∧
    ((∀ o ∈ (gnRun R.toNat ds (gn0 (sgM obs roots nR))).1,o.code ≠ 6) → keptV ds (gnRun R.toNat ds (gn0 (sgM obs roots nR))).1=(runM (plainV ds) (sgM obs roots nR)).1) ∧
    ((∀ o ∈ (cnRun 64 (plainV ds) (cnBeg (sgM obs roots nR) (sgM obs roots nR).objs.length)).1,o.code ≠ 6) → keptV (plainV ds) (cnRun 64 (plainV ds) (cnBeg (sgM obs roots nR) (sgM obs roots nR).objs.length)).1=(runM (plainV ds) (sgM obs roots nR)).1) ∧ nd ≤ 100:=by
  obtain ⟨hx,hb,hd⟩:gcheck nO nR obs roots=0 ∧ ¬ (b < 1 ∨ 3 < b) ∧ nd ≤ 100:=by
    unfold triErr at ht
    split at ht
    · rename_i h; exact absurd ht h
    · rename_i h
      split at ht
      · omega
      · rename_i hb
        split at ht
        · omega
        · exact ⟨by omega,hb,by omega⟩
  obtain ⟨q,rfl,hq,_⟩:=barV_iface hb
  obtain ⟨h1,h2,h3⟩:=sg_ok hO hR hx
  rw [Int.toNat_natCast]
  refine ⟨tri_told hq h1 (by omega) ds (by omega),rep_told h1 (by omega) ds,gen_told h1 R.toNat ds,fun hno => ?_,hd⟩
  have h:=cnt_told h1 64 (plainV ds) hno
  have e:plainV (plainV ds)=plainV ds:=by
    unfold plainV
    rw [List.filter_filter]
    congr 1
    funext d
    simp
  rw [h,e]
end Go.Proofs.YtjphckfbbiehdaaGreat

namespace Go.Proofs.YtjphckfbbiehdaaGreat
open Go.RowKit
theorem sDoT:SliceT Tryz.prog 26 72 5 40:=SliceT.mk_ Tryz.underlying26 (z:=.agg #[.int .i64 0,.int .i64 0,.int .i64 0,.int .i64 0,.int .i64 0]) (by kernel_rfl) rfl (by omega)
theorem dosV_appT (a b:List DoV):dosV (a ++ b)=dosV a ++ dosV b:=by simp [dosV]
set_option maxRecDepth 100000 in
set_option maxHeartbeats 32000000 in
theorem plain_any {F:Nat → Prop} {W w:World} {items:List Item} (hS0:Sep F W w items) (Ad:Option Addr) (nd cd:Nat) (ds:List DoV) (hnd:(nd + 1) * 40 ≤ 140737488355328) (hD:Rd w (fun _ => True) 5 Ad nd (dosV ds)) :
    Calls Tryz.prog 5 #[.slice Ad nd cd] w fun e w' => ∃ A c,e=.returned (.slice A (plainV ds).length c) ∧ Below w.heap.size w w' ∧ Sep F W w' (rowI 72 5 A (plainV ds).length c (dosV (plainV ds)) :: items):=by
  have hdl:ds.length=nd:=by have:=hD.1; rw [dosV_length] at this; omega
  have HDL:=hide hdl
  have HTK:=hide (fun (k:Nat) (d:DoV) => plainV_take ds (k:=k) (d:=d))
  have HTLK:=hide (fun k => plainV_len (ds.take k))
  have HRD:=hide hD
  have HS0:=hide ((Sep.nil No w).nilRow0 72 5)
  have HSE:=hide hS0
  clear hdl hS0 hD
  go_enter Tryz.func5,Tryz.ntmps5
  go_wp2_with fail
  go_loopw [3,8] (fun a i wr => ∃ (k m:Nat) (A1:Option Addr) (c1:Nat),k ≤ nd ∧ m ≤ k ∧ i=.int .i64 k ∧ a=.slice A1 m c1 ∧ Hid ((plainV (ds.take k)).length=m) ∧
    Sep No w wr [rowI 72 5 A1 m c1 (dosV (plainV (ds.take k)))]) (fun _ i _ => nd - (intOf i).toNat)
  case atStart => exact ⟨0,0,none,0,by omega,by omega,rfl,rfl,rfl,HS0.out⟩
  case round =>
    clear HS0
    obtain ⟨k,m,A1,c1,hk,hmk,rfl,rfl,HM,hS⟩:=hrel
    by_cases hlt:k < nd
    · have hkl:k < ds.length:=by rw [HDL.out]; exact hlt
      obtain ⟨v0,v1,v2,v3,v4⟩:=dosV_at ds k hkl
      obtain ⟨ad,hA,_,had,hc,hd⟩:=(HRD.out.below hS.below_).atN hlt
      have e0:=hc _ v0
      have e1:=hd 0 _ v1
      have e2:=hd 1 _ v2
      have e3:=hd 2 _ v3
      have e4:=hd 3 _ v4
      obtain ⟨d,hd'⟩:∃ d,ds[k]=d:=⟨_,rfl⟩
      rw [hd'] at e0 e1 e2 e3 e4
      have hT:=HTK.out k d (by rw [← hd']; exact List.getElem?_eq_getElem hkl)
      obtain ⟨gd,hgd⟩:∃ x,wr.heap.size=x:=⟨_,rfl⟩
      have hS2:=hS.blkAt 72 d.cells hgd
      subst hA
      obtain ⟨dk,dto,dfr,dat,dn⟩:=d
      dsimp only at e0 e1 e2 e3 e4
      unfold DoV.cells at hS2
      dsimp only at hS2
      have HS2:=hide hS2
      have HGD:=hide hgd
      by_cases h8:dk=8 ∨ dk=9
      · have hT2:plainV (ds.take (k + 1))=plainV (ds.take k):=by rw [hT,if_pos ((wkB_iff _).2 h8),List.append_nil]
        have HT2:=hide hT2
        rcases h8 with rfl | rfl
        all_goals
          clear hc hd v0 v1 v2 v3 v4 hT hT2 hd' hS hS2 hgd
          go_wp2_with fail
          go_roundw
          case rel => exact ⟨k + 1,m,A1,c1,by omega,by omega,by go_num,rfl,by rw [HT2.out]; exact HM,by rw [HT2.out]; exact HS2.out.sub (List.sublist_append_left [_] [_])⟩
          case measure => simp [intOf]; omega
      · have y8:(dk != 8)=true:=by simp; omega
        have y9:(dk != 9)=true:=by simp; omega
        have hT2:plainV (ds.take (k + 1))=plainV (ds.take k) ++ [⟨dk,dto,dfr,dat,dn⟩]:=by rw [hT,if_neg (fun h => h8 ((wkB_iff _).1 h))]
        have HT2:=hide hT2
        clear hc hd v0 v1 v2 v3 v4 hT hT2 hd' hS hS2 h8 hgd
        go_wp2_with (first
          | (at_builtin
             refine wpList_app1 (cs:=#[.int .i64 dk,.int .i64 dto,.int .i64 dfr,.int .i64 dat,.int .i64 dn]) rfl (.tmp 20) (.tmp 22) 26 rfl (F:=No) (W:=w) sDoT (items:=_ :: _ :: _) HS2.out 0 (n:=m) rfl rfl rfl (by first | (simp; done) | (simp [HGD.out]; done)) rfl rfl (by omega) ?_
             intro A6 c6 w6 hS6 hC6
             clear hC6))
        have HS7:=hide (hS6.sub (l:=[_]) (List.sublist_append_left [_] [_]))
        clear hS6
        go_roundw
        case rel => exact ⟨k + 1,m + 1,A6,c6,by omega,by omega,by go_num,rfl,by rw [HT2.out,List.length_append,HM.out]; exact hide rfl,by
          rw [HT2.out,dosV_appT]
          exact HS7.out⟩
        case measure => simp [intOf]; omega
    · obtain rfl:k=nd:=by omega
      have hT1:ds.take k=ds:=List.take_of_length_le (by rw [HDL.out]; exact Nat.le_refl _)
      rw [hT1] at hS HM
      have hml:=HM.out
      subst hml
      have HBL:=hide hS.below_
      have HF:=hide (HSE.out.consNew hS.below_ _ (hS.get 0 rfl) (fun g hg => (hS.lo 0 rfl g hg).resolve_left (fun h => h)))
      clear hS
      go_wp2_with fail
      go_ret
      exact ⟨_,_,rfl,HBL.out,HF.out⟩
set_option maxRecDepth 100000 in
set_option maxHeartbeats 32000000 in
theorem kept_any (w:World) (Ad Ao:Option Addr) (nd cd co:Nat) (ds:List DoV) (os:List OutV) (hnd:nd ≤ 1000000) (hD:Rd w (fun _ => True) 5 Ad nd (dosV ds)) (hO:Rd w (fun _ => True) 3 Ao nd (outsV os)) :
    Calls Tryz.prog 10 #[.slice Ad nd cd,.slice Ao nd co] w fun e w' => ∃ A n c b,e=.returned (.tuple #[.slice A n c,.bool b]) ∧ Below w.heap.size w w' ∧ (b=true → (∀ o ∈ os,o.code ≠ 6) ∧ Rd w' (fun _ => True) 3 A n (outsV (keptV ds os))):=by
  have hdl:ds.length=nd:=by have:=hD.1; rw [dosV_length] at this; omega
  have hol:os.length=nd:=by have:=hO.1; rw [outsV_length] at this; omega
  have HDL:=hide hdl
  have HOL:=hide hol
  have HTK:=hide (fun (k:Nat) (d:DoV) (o:OutV) => keptV_take ds os (k:=k) (d:=d) (o:=o))
  have HS0:=hide ((Sep.nil No w).nilRow0 74 3)
  have HRD:=hide hD
  have HRO:=hide hO
  clear hdl hol hD hO
  go_enter Tryz.func10,Tryz.ntmps10
  go_wp2_with fail
  go_loopw [6,16] (fun a i wr => ∃ (k m:Nat) (A1:Option Addr) (c1:Nat),k ≤ nd ∧ m ≤ k ∧ i=.int .i64 k ∧ a=.slice A1 m c1 ∧ Hid ((keptV (ds.take k) (os.take k)).length=m) ∧ Hid (∀ o ∈ os.take k,o.code ≠ 6) ∧
    Sep No w wr [rowI 74 3 A1 m c1 (outsV (keptV (ds.take k) (os.take k)))]) (fun _ i _ => nd - (intOf i).toNat)
  case atStart => exact ⟨0,0,none,0,by omega,by omega,rfl,rfl,rfl,hide (fun o ho => by cases ho),HS0.out⟩
  case round =>
    clear HS0
    obtain ⟨k,m,A1,c1,hk,hmk,rfl,rfl,HM,HNO,hS⟩:=hrel
    by_cases hlt:k < nd
    · have hkl:k < ds.length:=by rw [HDL.out]; exact hlt
      have hko:k < os.length:=by rw [HOL.out]; exact hlt
      obtain ⟨v0,v1,v2,v3,v4⟩:=dosV_at ds k hkl
      obtain ⟨ad,hA,_,had,hc,hd⟩:=(HRD.out.below hS.below_).atN hlt
      have e0:=hc _ v0
      have e1:=hd 0 _ v1
      have e2:=hd 1 _ v2
      have e3:=hd 2 _ v3
      have e4:=hd 3 _ v4
      obtain ⟨u0,u1,u2⟩:=outsV_at os k hko
      obtain ⟨d,hd'⟩:∃ d,ds[k]=d:=⟨_,rfl⟩
      obtain ⟨o,ho'⟩:∃ o,os[k]=o:=⟨_,rfl⟩
      rw [hd'] at e0 e1 e2 e3 e4
      have hT:=HTK.out k d o (by rw [← hd']; exact List.getElem?_eq_getElem hkl) (by rw [← ho']; exact List.getElem?_eq_getElem hko)
      have HTO:=hide (show os.take (k + 1)=os.take k ++ [o] from by rw [List.take_succ_eq_append_getElem hko,ho'])
      obtain ⟨gd,hgd⟩:∃ x,wr.heap.size=x:=⟨_,rfl⟩
      have hS2:=hS.blkAt 72 d.cells hgd
      obtain ⟨ao,hAo,_,hao,hco,hdo⟩:=(HRO.out.below hS2.below_).atN hlt
      have f0:=hco _ u0
      have f1:=hdo 0 _ u1
      have f2:=hdo 1 _ u2
      rw [ho'] at f0 f1 f2
      subst hA
      subst hAo
      obtain ⟨dk,dto,dfr,dat,dn⟩:=d
      obtain ⟨oc,orf,on⟩:=o
      dsimp only at e0 e1 e2 e3 e4 f0 f1 f2
      unfold DoV.cells at hS2 f0 f1 f2 hao
      dsimp only at hS2 f0 f1 f2 hao
      have HS2:=hide hS2
      have HGD:=hide hgd
      by_cases h6:oc=6
      · subst h6
        have HB:=hide hS2.below_
        clear hc hd hco hdo v0 v1 v2 v3 v4 u0 u1 u2 hT hd' ho' hS hS2 hgd
        go_wp2_with fail
        go_ret2
        exact ⟨_,_,_,_,rfl,HB.out,fun h => by cases h⟩
      · have y6:(oc == 6)=false:=by simp [h6]
        have HNO2:=hide (show ∀ o ∈ os.take (k + 1),o.code ≠ 6 from fun o ho => by
          rw [HTO.out] at ho
          rcases List.mem_append.1 ho with h | h
          · exact HNO.out o h
          · rw [List.mem_singleton.1 h]; exact h6)
        by_cases h8:dk=8 ∨ dk=9
        · have hT2:keptV (ds.take (k + 1)) (os.take (k + 1))=keptV (ds.take k) (os.take k):=by rw [hT,if_pos ((wkB_iff _).2 h8),List.append_nil]
          have HT2:=hide hT2
          rcases h8 with rfl | rfl
          all_goals
            clear hc hd hco hdo v0 v1 v2 v3 v4 u0 u1 u2 hT hT2 hd' ho' hS hS2 hgd h6
            go_wp2_with fail
            go_roundw
            case rel => exact ⟨k + 1,m,A1,c1,by omega,by omega,by go_num,rfl,by rw [HT2.out]; exact HM,HNO2,by rw [HT2.out]; exact HS2.out.sub (List.sublist_append_left [_] [_])⟩
            case measure => simp [intOf]; omega
        · have y8:(dk != 8)=true:=by simp; omega
          have y9:(dk != 9)=true:=by simp; omega
          have hT2:keptV (ds.take (k + 1)) (os.take (k + 1))=keptV (ds.take k) (os.take k) ++ [⟨oc,orf,on⟩]:=by rw [hT,if_neg (fun h => h8 ((wkB_iff _).1 h))]
          have HT2:=hide hT2
          clear hc hd hco hdo v0 v1 v2 v3 v4 u0 u1 u2 hT hT2 hd' ho' hS hS2 h8 h6 hgd
          go_wp2_with (first
            | (at_builtin
               refine wpList_app1 (cs:=#[.int .i64 oc,.bool orf,.int .i64 on]) rfl (.tmp 35) (.tmp 40) 27 rfl (F:=No) (W:=w) sOut (items:=_ :: _ :: _) HS2.out 0 (n:=m) rfl rfl rfl (by first | (simp; done) | (simp [HGD.out]; done)) rfl rfl (by omega) ?_
               intro A7 c7 w7 hS7 hC7
               clear hC7))
          have HS7:=hide (hS7.sub (l:=[_]) (List.sublist_append_left [_] [_]))
          clear hS7
          go_roundw
          case rel => exact ⟨k + 1,m + 1,A7,c7,by omega,by omega,by go_num,rfl,by rw [HT2.out,List.length_append,HM.out]; exact hide rfl,HNO2,by
            rw [HT2.out,outsV_app]
            exact HS7.out⟩
          case measure => simp [intOf]; omega
    · obtain rfl:k=nd:=by omega
      have hT1:ds.take k=ds:=List.take_of_length_le (by rw [HDL.out]; exact Nat.le_refl _)
      have hT2:os.take k=os:=List.take_of_length_le (by rw [HOL.out]; exact Nat.le_refl _)
      rw [hT1,hT2] at hS
      rw [hT2] at HNO
      have HF:=hide hS
      clear hS
      go_wp2_with fail
      go_ret2
      exact ⟨_,_,_,_,rfl,HF.out.below_,fun _ => ⟨HNO.out,HF.out.rd_ 0 rfl⟩⟩
end Go.Proofs.YtjphckfbbiehdaaGreat

namespace Go.Proofs.YtjphckfbbiehdaaGreat
open Go.RowKit
theorem neq_outT (w:World) (c:Int) (b:Bool) (n:Int):(binOp .neq 74 (.agg #[.int .i64 c,.bool b,.int .i64 n]) (.agg #[.int .i64 c,.bool b,.int .i64 n])).run Tryz.prog w=.ok (.bool false) w:=by
  have h1:Tryz.prog.underlying 74=some (.struct (Tryz.prog.fieldsOf 74)):=by kernel_rfl
  have h2:Tryz.prog.stoodInHeld 74=false:=by kernel_rfl
  obtain ⟨F,hF⟩:∃ F,(Tryz.prog.fieldsOf 74).toList=F:=⟨_,rfl⟩
  have h5:F=[F[0]!,F[1]!,F[2]!]:=by rw [← hF]; kernel_rfl
  have n1:(F[0]!).name ≠ "_":=by rw [← hF]; rw [show ((Tryz.prog.fieldsOf 74).toList[0]!).name = "Code" from by kernel_rfl]; decide
  have n2:(F[1]!).name ≠ "_":=by rw [← hF]; rw [show ((Tryz.prog.fieldsOf 74).toList[1]!).name = "Ref" from by kernel_rfl]; decide
  have n3:(F[2]!).name ≠ "_":=by rw [← hF]; rw [show ((Tryz.prog.fieldsOf 74).toList[2]!).name = "N" from by kernel_rfl]; decide
  obtain ⟨t0,ht0⟩:∃ t,(F[0]!).type=t:=⟨_,rfl⟩
  obtain ⟨t1,ht1⟩:∃ t,(F[1]!).type=t:=⟨_,rfl⟩
  obtain ⟨t2,ht2⟩:∃ t,(F[2]!).type=t:=⟨_,rfl⟩
  have u0:∃ k,Tryz.prog.underlying t0=some (.int k):=by rw [← ht0,← hF]; exact ⟨.i64,by kernel_rfl⟩
  have u1:Tryz.prog.underlying t1=some .bool:=by rw [← ht1,← hF]; kernel_rfl
  have u2:∃ k,Tryz.prog.underlying t2=some (.int k):=by rw [← ht2,← hF]; exact ⟨.i64,by kernel_rfl⟩
  have o0:∀ x y z,(part t0 #[x,y,z] (F[0]!).offset).run Tryz.prog w=.ok x w:=fun x y z => by rw [← ht0,← hF]; kernel_rfl
  have o1:∀ x y z,(part t1 #[x,y,z] (F[1]!).offset).run Tryz.prog w=.ok y w:=fun x y z => by rw [← ht1,← hF]; kernel_rfl
  have o2:∀ x y z,(part t2 #[x,y,z] (F[2]!).offset).run Tryz.prog w=.ok z w:=fun x y z => by rw [← ht2,← hF]; kernel_rfl
  rw [run_neq_struct,run_equalIn_agg _ _ _ _ _ h1 h2,hF,h5]
  obtain ⟨k0,u0⟩:=u0
  obtain ⟨k2,u2⟩:=u2
  simp only [Op.eqFields,ht0,ht1,ht2,n1,n2,n3,ne_eq,not_false_iff,if_true,Sem.run_ite,Sem.run_bind,o0,o1,o2,Result.andThen_ok,run_equalIn_bool' w _ _ _ _ u1,run_equalIn_int w _ _ _ _ _ _ u0,run_equalIn_int w _ _ _ _ _ _ u2]
  simp
theorem guard_outT (w:World) (x y:Operand) (a b:Array Value):(eqGuard .neq 74 x y (.agg a) (.agg b)).run Tryz.prog w=.ok () w :=
  run_eqGuard_agg w .neq _ x y _ _ (by kernel_rfl)
set_option maxRecDepth 100000 in
set_option maxHeartbeats 8000000 in
theorem outsT_any (w:World) (A1 A2:Option Addr) (n c1 c2:Nat) (os:List OutV) (hn:n ≤ 1000) (h1:Rd w (fun _ => True) 3 A1 n (outsV os)) (h2:Rd w (fun _ => True) 3 A2 n (outsV os)) :
    Calls Tryz.prog 11 #[.slice A1 n c1,.slice A2 n c2] w fun e w' => e=.returned (.bool true) ∧ Below w.heap.size w w':=by
  have HL:=hide (show os.length=n by have:=h1.1; rw [outsV_length] at this; omega)
  have hng:=neq_outT
  have hgd:=guard_outT
  go_enter Tryz.func11,Tryz.ntmps11
  go_wp2_with fail
  go_loopw [5] (fun s wr => ∃ (k:Nat),k ≤ n ∧ s=.int .i64 k ∧ Below w.heap.size w wr) (fun s _ => n - (intOf s).toNat)
  case atStart => exact ⟨0,by omega,rfl,Below.refl _ _⟩
  case round =>
    obtain ⟨k,hk,rfl,hb⟩:=hrel
    by_cases hlt:k < n
    · have hkl:k < os.length:=by rw [HL.out]; exact hlt
      obtain ⟨v0,v1,v2⟩:=outsV_at os k hkl
      obtain ⟨ad,hA,_,had,hc,hd⟩:=(h1.below hb).atN hlt
      obtain ⟨ad2,hA2,_,had2,hc2,hd2⟩:=(h2.below hb).atN hlt
      have e0:=hc _ v0
      have e1:=hd 0 _ v1
      have e2:=hd 1 _ v2
      have f0:=hc2 _ v0
      have f1:=hd2 0 _ v1
      have f2:=hd2 1 _ v2
      obtain ⟨o,ho⟩:∃ o,os[k]=o:=⟨_,rfl⟩
      rw [ho] at e0 e1 e2 f0 f1 f2
      obtain ⟨c,r,m⟩:=o
      dsimp only at e0 e1 e2 f0 f1 f2
      subst hA hA2
      have HB:=hide hb
      clear hc hd hc2 hd2 v0 v1 v2 hb ho
      go_wp2_with fail
      go_region_held3 (fun w' => w'.cell? (ad.add (k * 3))=some (.int .i64 c) ∧ w'.cell? ⟨(ad.add (k * 3)).block,(ad.add (k * 3)).off + 1,none⟩=some (.bool r) ∧ w'.cell? ⟨(ad.add (k * 3)).block,(ad.add (k * 3)).off + 2,none⟩=some (.int .i64 m) ∧ w'.cell? (ad2.add (k * 3))=some (.int .i64 c) ∧ w'.cell? ⟨(ad2.add (k * 3)).block,(ad2.add (k * 3)).off + 1,none⟩=some (.bool r) ∧ w'.cell? ⟨(ad2.add (k * 3)).block,(ad2.add (k * 3)).off + 2,none⟩=some (.int .i64 m)) (go_keep) (fail)
      all_goals go_wp2_with fail
      all_goals exact ⟨⟨k + 1,by omega,by go_num,HB.out.drew⟩,by simp [intOf]; omega⟩
    · obtain rfl:k=n:=by omega
      go_wp2_with fail
      go_ret
      exact ⟨rfl,hb⟩
end Go.Proofs.YtjphckfbbiehdaaGreat

namespace Go.Proofs.YtjphckfbbiehdaaGreat
open Go.ChangeShapes Go.WideShapes Go.Deep Go.RowKit
theorem vals_at_ (l:List Val) (q r:Nat) (hr:r < 2):(vals l)[q * 2 + r]?=(l[q]?).bind fun d => [Value.bool d.1,.int .i64 d.2][r]?:=by
  unfold vals
  induction l generalizing q with
  | nil => rfl
  | cons a l ih =>
    rw [List.flatMap_cons]
    cases q with
    | zero => rw [List.getElem?_append_left (by simp; omega)]; simp
    | succ q => rw [List.getElem?_append_right (by simp; omega),show (q + 1) * 2 + r - [Value.bool a.1,.int .i64 a.2].length=q * 2 + r by simp; omega,ih]; rfl
section
variable {H : Type} {enc : TypeId × Value → H} {P : Program} {w : World} {base : Nat} {spare : Nat → Bool} {held : Bool}
theorem trod_vals {t e:TypeId} {f0 f1:Field} {fuel:Nat} {cs:List Value} {x:DataW H × List MemPlace} (ht:P.underlying t=some (.slice e)) (he:P.underlying e=some (.struct #[f0,f1])) (hone:oneCellFields P #[f0,f1]=true) (hC:P.cellsOf e=2)
    (i0:P.underlying f0.type=some .bool) (i1:P.underlying f1.type=some (.int .i64)) (h:DataW.trod enc P w base spare held fuel t cs=some x) :
    ∃ (A:Option Addr) (n c:Nat) (l:List Val),cs=[.slice A n c] ∧ n ≤ 9223372036854775807 ∧ Rd w (fun _ => True) 2 A n (vals l):=by
  rcases open_slice ht h with ⟨h0,_⟩ | ⟨a,n,c,m,n0,D,Pl,rfl,_,hl,hm,hmm,_,hx⟩
  · exact ⟨none,0,0,[],h0,by omega,Rd.nil⟩
  · have hle:n ≤ m:=by rw [hmm]; split <;> omega
    have hmx:c ≤ 9223372036854775807:=by simpa [maxLen] using hm
    have key:∀ i,i < n → ∃ x:Val,w.cell? (a.add (i * 2))=some (.bool x.1) ∧ w.cell? (a.add (i * 2 + 1))=some (.int .i64 x.2):=by
      intro i hi'
      obtain ⟨cs',h1,h2⟩:=hx i (by omega)
      rw [hC] at h1
      obtain ⟨_,hcl,hat⟩:=World.cells?_some h1
      obtain ⟨y0,y1,n',_,_,hj0,hj1⟩:=trod_struct2 he h2
      obtain ⟨o0,k0⟩:=hone_of hone 0 f0 rfl
      obtain ⟨o1,k1⟩:=hone_of hone 1 f1 rfl
      rw [o0,k0] at hj0
      rw [o1,k1] at hj1
      obtain ⟨b,e0,_⟩:=DataW.trod_bool i0 hj0
      obtain ⟨k,e1,_,_⟩:=DataW.trod_int i1 hj1
      refine ⟨(b,k),?_,?_⟩
      · have h3:=hat 0 (by omega)
        have e2:=congrArg (fun l => l[0]?) e0
        have e3:cs'[0]?=some (.bool b):=by simpa [List.getElem?_take,List.getElem?_drop] using e2
        rw [← e3,← h3,add_of_add,Nat.add_zero]
      · have h3:=hat 1 (by omega)
        have e2:=congrArg (fun l => l[0]?) e1
        have e3:cs'[1]?=some (.int .i64 k):=by simpa [List.getElem?_take,List.getElem?_drop] using e2
        rw [← e3,← h3,add_of_add]
    obtain ⟨f,hf'⟩:=choose_lt key
    refine ⟨some a,n,c,(List.range n).map f,rfl,by omega,?_,?_⟩
    · rw [vals_length]; simp
    · intro hn
      refine ⟨a,rfl,trivial,?_,?_⟩
      · have:=block_lt_ (hf' 0 hn).1
        simpa [block_of_add] using this
      · intro j u hu
        obtain ⟨q,r,hr,rfl⟩:∃ q r,r < 2 ∧ j=q * 2 + r:=⟨j / 2,j % 2,Nat.mod_lt _ (by omega),by omega⟩
        rw [vals_at_ _ _ _ hr] at hu
        simp only [List.getElem?_map] at hu
        rcases Nat.lt_or_ge q n with hq | hq
        case inr => rw [List.getElem?_eq_none (by simp; omega)] at hu; cases hu
        rw [List.getElem?_range hq] at hu
        simp only [Option.map_some,Option.bind_some] at hu
        obtain ⟨g0,g1⟩:=hf' q hq
        rcases (show r=0 ∨ r=1 by omega) with rfl | rfl
        · simp at hu; subst hu; simpa using g0
        · simp at hu; subst hu; exact g1
end
end Go.Proofs.YtjphckfbbiehdaaGreat

namespace Go.Proofs.YtjphckfbbiehdaaGreat
open Go.ChangeShapes Go.WideShapes Go.Deep Go.RowKit
def Caps (obs:List Ob):Prop:=∀ o ∈ obs,o.n ≤ o.c ∧ (o.A=none → o.c=0)
section
variable {H : Type} {enc : TypeId × Value → H} {P : Program} {w : World} {base : Nat} {spare : Nat → Bool} {held : Bool}
theorem trod_valsC {t e:TypeId} {f0 f1:Field} {fuel:Nat} {cs:List Value} {x:DataW H × List MemPlace} (ht:P.underlying t=some (.slice e)) (he:P.underlying e=some (.struct #[f0,f1])) (hone:oneCellFields P #[f0,f1]=true) (hC:P.cellsOf e=2)
    (i0:P.underlying f0.type=some .bool) (i1:P.underlying f1.type=some (.int .i64)) (h:DataW.trod enc P w base spare held fuel t cs=some x) :
    ∃ (A:Option Addr) (n c:Nat) (l:List Val),cs=[.slice A n c] ∧ (n ≤ c ∧ (A=none → c=0)) ∧ Rd w (fun _ => True) 2 A n (vals l):=by
  obtain ⟨A,n,c,l,e1,_,hr⟩:=trod_vals ht he hone hC i0 i1 h
  refine ⟨A,n,c,l,e1,?_,hr⟩
  rcases open_slice ht h with ⟨h0,_⟩ | ⟨a,n',c',m,n0,D,Pl,h0,_,hl,hm,hmm,_,hx⟩
  · rw [e1] at h0
    simp at h0
    exact ⟨by omega,fun _ => h0.2.2⟩
  · rw [e1] at h0
    simp at h0
    exact ⟨by omega,fun h => by rw [h] at h0; simp at h0⟩
theorem trod_objsC {t e tf te:TypeId} {f f0 f1:Field} {fuel:Nat} {cs:List Value} {x:DataW H × List MemPlace} (ht:P.underlying t=some (.slice e)) (he:P.underlying e=some (.struct #[f])) (hone1:oneCellFields P #[f]=true) (hC1:P.cellsOf e=1) (hft:f.type=tf)
    (htf:P.underlying tf=some (.slice te)) (hte:P.underlying te=some (.struct #[f0,f1])) (hone:oneCellFields P #[f0,f1]=true) (hC:P.cellsOf te=2)
    (i0:P.underlying f0.type=some .bool) (i1:P.underlying f1.type=some (.int .i64)) (h:DataW.trod enc P w base spare held fuel t cs=some x) :
    ∃ (A:Option Addr) (n c:Nat) (l:List Ob),cs=[.slice A n c] ∧ n ≤ 9223372036854775807 ∧ ObsRd w (fun _ => True) A n l ∧ Caps l:=by
  rcases open_slice1 ht hC1 h with ⟨h0,_⟩ | ⟨a,n,c,m,n0,V,D,Pl,rfl,_,hl,hm,hmm,_,hx⟩
  · exact ⟨none,0,0,[],h0,by omega,⟨Rd.nil,fun o ho => by cases ho⟩,fun o ho => by cases ho⟩
  · have hle:n ≤ m:=by rw [hmm]; split <;> omega
    have hmx:c ≤ 9223372036854775807:=by simpa [maxLen] using hm
    have key:∀ i,i < n → ∃ o:Ob,w.cell? (a.add i)=some o.val ∧ Rd w (fun _ => True) 2 o.A o.n (vals o.fields) ∧ (o.n ≤ o.c ∧ (o.A=none → o.c=0)):=by
      intro i hi'
      obtain ⟨h1,h2⟩:=hx i (by omega)
      obtain ⟨y0,n',_,_,hj0⟩:=trod_struct1 he h2
      obtain ⟨o0,k0⟩:=hone_of hone1 0 f rfl
      rw [o0,k0,hft] at hj0
      obtain ⟨A',n1,c1,l1,e1,hnc,hr⟩:=trod_valsC htf hte hone hC i0 i1 hj0
      refine ⟨⟨A',n1,c1,l1⟩,?_,hr,hnc⟩
      have e2:=congrArg (fun l => l[0]?) e1
      have e3:V i=.slice A' n1 c1:=by simpa using e2
      rw [h1,e3]; rfl
    haveI:Inhabited Ob:=⟨⟨none,0,0,[]⟩⟩
    obtain ⟨g,hg⟩:=choose_lt key
    refine ⟨some a,n,c,(List.range n).map g,rfl,by omega,⟨⟨by simp,fun hn => ⟨a,rfl,trivial,?_,?_⟩⟩,fun o ho => ?_⟩,fun o ho => ?_⟩
    · have:=block_lt_ (hg 0 hn).1
      simpa [block_of_add] using this
    · intro j u hu
      simp only [List.getElem?_map] at hu
      rcases Nat.lt_or_ge j n with hq | hq
      case inr => rw [List.getElem?_eq_none (by simp; omega)] at hu; cases hu
      rw [List.getElem?_range hq] at hu
      simp at hu
      subst hu
      exact (hg j hq).1
    · obtain ⟨j,hj,rfl⟩:=List.mem_map.1 ho
      exact (hg j (List.mem_range.1 hj)).2.1
    · obtain ⟨j,hj,rfl⟩:=List.mem_map.1 ho
      exact (hg j (List.mem_range.1 hj)).2.2
end
end Go.Proofs.YtjphckfbbiehdaaGreat
