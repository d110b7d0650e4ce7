/- How many words what can be come to takes. The law TopRoom, plain. The walk of the law TopRoom. -/
import Derived.Deep.DeepCutAuto
import Derived.Test.YtjphckfbbiehdaaGTopIdeal7
set_option linter.unusedSimpArgs false
set_option linter.unusedVariables false
namespace Go.Proofs.Ytjphckfbbiehdaa
open Go.RowKit

def lsum (FF : List (List Val)) : Int := (FF.map fun fs => 1 + (fs.length : Int)).sum
theorem lsum_snoc (FF : List (List Val)) (fs : List Val) : lsum (FF ++ [fs]) = lsum FF + (1 + (fs.length : Int)) := by simp [lsum]
theorem lsum_le (FF : List (List Val)) (h : ∀ fs ∈ FF, fs.length ≤ 1000) : 0 ≤ lsum FF ∧ lsum FF ≤ 1001 * FF.length := by
  induction FF with
  | nil => simp [lsum]
  | cons a l ih =>
    have h1 := ih fun fs hfs => h fs (List.mem_cons_of_mem _ hfs)
    have h2 := h a (List.mem_cons_self ..)
    have e : lsum (a :: l) = (1 + (a.length : Int)) + lsum l := by simp [lsum]
    rw [e, List.length_cons]
    omega
theorem rd_pre {w : World} {D : Nat → Prop} {size n k : Nat} {A : Option Addr} {xs ys : List Value} (h : Rd w D size A n (xs ++ ys)) (hk : xs.length = k * size) (hkn : k ≤ n) : Rd w D size A k xs := by
  have h1 := h.take hkn
  rwa [← hk, List.take_left] at h1

theorem graph_more {w : World} {lo lo' : Nat} {v : Value} {FF : List (List Val)} {RR : List Val} (h : GraphRd w (fun g => lo ≤ g) v FF RR) (hl : lo' ≤ lo) : GraphRd w (fun g => lo' ≤ g) v FF RR := by
  obtain ⟨C5, m5', k5, C6, m6', k6, obs2, he, hO5, hF5, hR6⟩ := h.ex
  exact ⟨C5, m5', k5, C6, m6', k6, obs2, he, hO5.more (fun k _ hk => by omega), hF5, hR6.more (fun k _ hk => by omega)⟩
theorem graph_set2 {w : World} {b lo lo' : Nat} {v x y : Value} {FF : List (List Val)} {RR : List Val} (h : GraphRd w (fun g => lo ≤ g) v FF RR) (hb : b < lo) (hl : lo' ≤ lo) : GraphRd ((w.setCell ⟨b, 0, none⟩ x).setCell ⟨b, 1, none⟩ y) (fun g => lo' ≤ g) v FF RR := by
  have hc : Chg (fun g' => g' = b) w ((w.setCell ⟨b, 0, none⟩ x).setCell ⟨b, 1, none⟩ y) := ((Chg.refl (fun g' => g' = b) w).setCell (p := ⟨b, 0, none⟩) (.inl rfl) _).setCell (p := ⟨b, 1, none⟩) (.inl rfl) _
  obtain ⟨C5, m5', k5, C6, m6', k6, obs2, he, hO5, hF5, hR6⟩ := h.ex
  exact ⟨C5, m5', k5, C6, m6', k6, obs2, he, (hO5.chg hc (fun g' hg hd => by subst hg; omega)).more (fun k _ hk => by omega), hF5, (hR6.chg hc (fun g' hg hd => by subst hg; omega)).more (fun k _ hk => by omega)⟩
set_option maxRecDepth 100000 in
set_option maxHeartbeats 32000000 in
theorem live_any (w : World) (Ad Ao : Option Addr) (nd cd co n : Nat) (ds : List DoV) (os : List OutV) (hnd : nd ≤ 100) (hn : n ≤ nd) (hcd : nd ≤ cd) (hco : nd ≤ co) (hcd2 : cd ≤ maxLen) (hco2 : co ≤ maxLen) (hD : Rd w (fun _ => True) 5 Ad nd (dosV ds)) (hO : Rd w (fun _ => True) 3 Ao nd (outsV os))
    (FF : List (List Val)) (hF9 : ∀ fs ∈ FF, fs.length ≤ 1000) (hFl : FF.length ≤ 100)
    (htold : (runM ((toldF [8] (ds.take n) (os.take n)).map Prod.fst) σ0).1 = (toldF [8] (ds.take n) (os.take n)).map Prod.snd)
    (hFF : renumF (runM ((toldF [8] (ds.take n) (os.take n)).map Prod.fst) σ0).2.objs (order (runM ((toldF [8] (ds.take n) (os.take n)).map Prod.fst) σ0).2.objs (runM ((toldF [8] (ds.take n) (os.take n)).map Prod.fst) σ0).2.regs) = FF) :
    Calls Try.prog 17 #[.slice Ad nd cd, .slice Ao nd co, .int .i64 n] w fun e w' => e = .returned (.tuple #[.int .i64 (lsum FF), .bool true]) ∧ Below w.heap.size w w' := by
  have hdl : ds.length = nd := by have := hD.1; rw [dosV_length] at this; omega
  have hol : os.length = nd := by have := hO.1; rw [outsV_length] at this; omega
  have hD1 : Rd w (fun _ => True) 5 Ad n (dosV (ds.take n)) := by
    refine rd_pre (ys := dosV (ds.drop n)) (n := nd) ?_ (by rw [dosV_length, List.length_take]; congr 1; omega) hn
    rw [← dosV_app, List.take_append_drop]; exact hD
  have hO1 : Rd w (fun _ => True) 3 Ao n (outsV (os.take n)) := by
    refine rd_pre (ys := outsV (os.drop n)) (n := nd) ?_ (by rw [outsV_length, List.length_take]; congr 1; omega) hn
    rw [← outsV_app, List.take_append_drop]; exact hO
  have CT := hide (fun (X : World) (Aw : Option Addr) (cw : Nat) (hb : Below w.heap.size w X) (h2 : Rd X (fun _ => True) 1 Aw 1 (ints [8])) => told_any X Ad Ao Aw n cd co cw (ds.take n) (os.take n) (by omega) (hD1.below hb) (hO1.below hb) h2 htold)
  rw [hFF] at CT
  have t1 : decide ((n : Int) < 0) = false := by simp
  have t2 : decide ((cd : Int) < (n : Int)) = false := by simp; omega
  have t3 : decide ((co : Int) < (n : Int)) = false := by simp; omega
  have t4 : decide (cd < n) = false := by simp; omega
  have t5 : decide (co < n) = false := by simp; omega
  have t6 : n ≤ cd := by omega
  have t7 : n ≤ co := by omega
  obtain ⟨g8, hg8⟩ : ∃ x, w.heap.size = x := ⟨_, rfl⟩
  have hA1 := ((Sep.nil No w).blkAt 3 #[.int .i64 8] (g := g8) hg8).drew
  have hA2 := (((Sep.nil No w).blkAt 3 #[.int .i64 8] (g := g8) hg8).blkAt 27 #[.slice none 0 0, .slice none 0 0] (g := g8 + 1) (by simp [hg8])).drew
  have hA3 := (((Sep.nil No w).blkAt 27 #[.slice none 0 0, .slice none 0 0] (g := g8) hg8).blkAt 3 #[.int .i64 8] (g := g8 + 1) (by simp [hg8])).drew
  have C1 := hide (CT.out _ (some ⟨g8, 0, none⟩) 1 hA1.below_ (rd_of_blk (g := g8) (t := 3) (cs := [.int .i64 8]) (hA1.get 0 rfl) rfl))
  have C2 := hide (CT.out _ (some ⟨g8, 0, none⟩) 1 hA2.below_ (rd_of_blk (g := g8) (t := 3) (cs := [.int .i64 8]) (hA2.get 0 rfl) rfl))
  have C3 := hide (CT.out _ (some ⟨g8 + 1, 0, none⟩) 1 hA3.below_ (rd_of_blk (g := g8 + 1) (t := 3) (cs := [.int .i64 8]) (hA3.get 1 rfl) rfl))
  have HA1 := hide hA1
  have HA2 := hide hA2
  have HA3 := hide hA3
  clear hdl hol hD hO htold hFF hD1 hO1 hA1 hA2 hA3 CT
  go_enter Try.func17, Try.ntmps17
  go_wp2_with fail
  go_cut [8, 9] from 14 to 24 (fun s8 s9 wx => ∃ (b : Nat) (B5 B6 : Option Addr) (n5 d5 n6 d6 : Nat) (RR : List Val), s8 = .pointer (some ⟨b, 0, none⟩) ∧ s9 = .bool true ∧ Sep No w wx [blkI b 27 #[.slice B5 n5 d5, .slice B6 n6 d6]] ∧ GraphRd wx (fun g => w.heap.size ≤ g) (.agg #[.slice B5 n5 d5, .slice B6 n6 d6]) FF RR)
  case first =>
    go_region_held3 (fun _ => True) (trivial)
      ((go_at_call 15; first
        | ((with_reducible refine C1.out.mono ?_); rintro e w2 ⟨B5, n5, d5, B6, n6, d6, rfl, hb2, hg2⟩; have HS2 := hide ((HA1.out.below hb2).blkAt 27 #[.slice B5 n5 d5, .slice B6 n6 d6] (g := w2.heap.size) rfl); have HG2 := hide hg2; have HK := hide True.intro; clear hb2 hg2)
        | ((with_reducible refine C2.out.mono ?_); rintro e w2 ⟨B5, n5, d5, B6, n6, d6, rfl, hb2, hg2⟩; have hS2 := HA2.out.below hb2; obtain ⟨x1, x2, x3, -⟩ := hS2.rules 1 (g := g8 + 1) (t := 27) rfl; have HS2 := hide hS2; have HG2 := hide hg2; clear hb2 hg2 hS2)
        | ((with_reducible refine C3.out.mono ?_); rintro e w2 ⟨B5, n5, d5, B6, n6, d6, rfl, hb2, hg2⟩; have hS2 := HA3.out.below hb2; obtain ⟨x1, x2, x3, -⟩ := hS2.rules 0 (g := g8) (t := 27) rfl; have HS2 := hide hS2; have HG2 := hide hg2; clear hb2 hg2 hS2)))
    all_goals
      go_wp2_with fail
      go_meet
      case rel => first
        | (have hk := HK.out
           exact ⟨w2.heap.size, B5, B6, n5, d5, n6, d6, _, rfl, rfl, HS2.out.sub (List.sublist_append_right [_] [_]), graph_more (HG2.out.below ((Below.refl _ w2).alloc (Nat.le_refl _) _)) (by simp [World.drew])⟩)
        | exact ⟨g8 + 1, B5, B6, n5, d5, n6, d6, _, rfl, rfl, ((HS2.out.set_ 1 (g := g8 + 1) (t := 27) rfl 0 (.slice B5 n5 d5)).set_ 1 (g := g8 + 1) (t := 27) rfl 1 (.slice B6 n6 d6)).sub (List.sublist_append_right [_] [_]), graph_set2 HG2.out (by first | (simp [World.drew, hg8]; done) | (simp [World.drew, hg8]; omega)) (by first | (simp [World.drew]; done) | (simp [World.drew]; omega))⟩
        | exact ⟨g8, B5, B6, n5, d5, n6, d6, _, rfl, rfl, ((HS2.out.set_ 0 (g := g8) (t := 27) rfl 0 (.slice B5 n5 d5)).set_ 0 (g := g8) (t := 27) rfl 1 (.slice B6 n6 d6)).sub (List.sublist_append_left [_] [_]), graph_set2 HG2.out (by first | (simp [World.drew, hg8]; done) | (simp [World.drew, hg8]; omega)) (by first | (simp [World.drew]; done) | (simp [World.drew]; omega))⟩
  case rest =>
    obtain ⟨b, B5, B6, n5, d5, n6, d6, RR, rfl, rfl, hS, hG⟩ := hcut
    clear C1 C2 C3 HA1 HA2 HA3
    obtain ⟨C5, m5, k5, C6, m6, k6, obs, he, hO5, hF5, -⟩ := hG.ex
    injection he with he
    have he2 := congrArg Array.toList he
    simp at he2
    obtain ⟨⟨rfl, rfl, rfl⟩, -⟩ := he2
    have hlen : FF.length = n5 := by rw [← hF5, List.length_map]; exact hO5.len
    obtain ⟨x1, x2, x3, -⟩ := hS.rules 0 (g := b) (t := 27) rfl
    have x5 := (x1 0).trans (show _ = some (.slice B5 n5 d5) from rfl)
    have HB := hide hS.below_
    have HO := hide (fun (X : World) (hb : Below wc.heap.size wc X) => hO5.below hb)
    have HOL := hide hO5.len
    have HF := hide hF5
    have HL := hide hlen
    have HF9 := hide hF9
    have hn5 : n5 ≤ 100 := by omega
    clear hG he hO5 hF5 hS x1 hlen hF9 hFl
    go_wp2_with fail
    go_loopw [10, 27] (fun s i wr => ∃ (k : Nat) (S : Int), k ≤ n5 ∧ i = .int .i64 k ∧ s = .int .i64 S ∧ Hid (S = lsum (FF.take k)) ∧ 0 ≤ S ∧ S ≤ 1001 * k ∧ Below wc.heap.size wc wr) (fun _ i _ => n5 - (intOf i).toNat)
    case atStart => exact ⟨0, 0, by omega, rfl, rfl, rfl, by omega, by omega, Below.refl _ _⟩
    case round =>
      obtain ⟨k, S, hk, rfl, rfl, HS, hs0, hs1, hbw⟩ := hrel
      by_cases hlt : k < n5
      · have hO := HO.out wr hbw
        obtain ⟨ad, hA, _, had, hc⟩ := hO.1.at_ hlt
        have hkl : k < obs.length := by rw [HOL.out]; exact hlt
        have hkf : k < FF.length := by rw [HL.out]; exact hlt
        have e0 := hc (.slice obs[k].A obs[k].n obs[k].c) (by simp [List.getElem?_eq_getElem hkl, Ob.val])
        have hfe : FF[k] = obs[k].fields := by
          have h1 := HF.out
          subst h1
          simp
        have hfl := hO.flen (List.getElem_mem hkl)
        have hT : lsum (FF.take (k + 1)) = lsum (FF.take k) + (1 + (obs[k].n : Int)) := by rw [List.take_succ_eq_append_getElem hkf, lsum_snoc, hfe, hfl]
        have h9 : obs[k].n ≤ 1000 := by
          rw [← hfl, ← hfe]
          exact HF9.out _ (List.getElem_mem hkf)
        obtain ⟨o, ho⟩ : ∃ o, obs[k] = o := ⟨_, rfl⟩
        rw [ho] at e0 hT h9
        obtain ⟨oA, on, oc, ofs⟩ := o
        dsimp only at e0 hT h9
        have w1 : IntKind.i64.wrap (S + 1) = S + 1 := wrap64 _ (by omega) (by omega)
        have w2 : IntKind.i64.wrap (S + 1 + (on : Int)) = S + 1 + (on : Int) := wrap64 _ (by omega) (by omega)
        have HS2 := hide (show S + 1 + (on : Int) = lsum (FF.take (k + 1)) by rw [hT, ← HS.out]; omega)
        have HBW := hide hbw
        obtain ⟨gk, hgk⟩ : ∃ x, wr.heap.size = x := ⟨_, rfl⟩
        have hB2 := (Below.refl wr.heap.size wr).alloc (Nat.le_refl _) (.cells #[.slice oA on oc] 119)
        have HB3 := hide (hbw.alloc hbw.size (.cells #[.slice oA on oc] 119))
        have c1 := (Blk.new wr 119 #[.slice oA on oc]).cell 0
        rw [hgk] at c1
        have c2 : (wr.alloc (.cells #[.slice oA on oc] 119)).cell? ⟨gk, 0, none⟩ = some (.slice oA on oc) := c1
        subst hA
        clear hO hc hfe hfl hT hbw ho hB2 c1 HS
        go_wp2_with fail
        go_roundw
        case rel => exact ⟨k + 1, S + 1 + (on : Int), by omega, by go_num, rfl, HS2.out, by omega, by omega, HB3.out⟩
        case measure => simp [intOf]; omega
      · obtain rfl : k = n5 := by omega
        have hs := HS.out
        rw [List.take_of_length_le (by rw [HL.out]; exact Nat.le_refl _)] at hs
        subst hs
        have HB4 := hide (HB.out.trans (hbw.mono HB.out.size))
        clear hbw HS
        go_wp2_with fail
        refine bodyPost_ret (v := .tuple #[.int .i64 (lsum FF), .bool true]) (by simp [results, Try.results17, go_sem]) rfl ⟨rfl, HB4.out⟩
end Go.Proofs.Ytjphckfbbiehdaa

namespace Go.Proofs.Ytjphckfbbiehdaa

theorem rnRun_pre (c W : Int) (ds : List DoV) (k : Nat) : ∀ j, k ≤ j → j ≤ ds.length → (rnRun c W (ds.take j) rn0).1.take k = (rnRun c W (ds.take k) rn0).1 := by
  intro j
  induction j with
  | zero =>
    intro h1 _
    obtain rfl : k = 0 := by omega
    rw [List.take_zero]; rfl
  | succ j ih =>
    intro h1 h2
    rcases Nat.lt_or_ge k (j + 1) with h | h
    · rw [rnRun_at c W ds j (by omega)]
      have h3 : (rnRun c W (ds.take j) rn0).1.length = j := by rw [rnRun_len, List.length_take]; omega
      show ((rnRun c W (ds.take j) rn0).1 ++ [_]).take k = _
      rw [List.take_append_of_le_length (by omega)]
      exact ih (by omega) (by omega)
    · obtain rfl : k = j + 1 := by omega
      exact List.take_of_length_le (by rw [rnRun_len, List.length_take]; omega)
theorem rnRun_get (c W : Int) (ds : List DoV) (k : Nat) (hk : k < ds.length) : (rnRun c W ds rn0).1[k]? = some (rnStep c W ds[k] (rnRun c W (ds.take k) rn0).2).1 := by
  have h1 := rnRun_pre c W ds (k + 1) ds.length (by omega) (Nat.le_refl _)
  rw [List.take_length] at h1
  have h2 : (rnRun c W ds rn0).1[k]? = ((rnRun c W ds rn0).1.take (k + 1))[k]? := by rw [List.getElem?_take, if_pos (by omega)]
  rw [h2, h1, rnRun_at c W ds k hk]
  have h3 : (rnRun c W (ds.take k) rn0).1.length = k := by rw [rnRun_len, List.length_take]; omega
  show ((rnRun c W (ds.take k) rn0).1 ++ [_])[k]? = _
  rw [List.getElem?_append_right (by omega), h3]
  simp
theorem sum_map_map {α : Type} (l : List Int) (f : Int → α) (s : α → Int) (t : Int → Int) (h : ∀ x ∈ l, s (f x) = t x) : ((l.map f).map s).sum = (l.map t).sum := by
  rw [List.map_map]
  congr 1
  exact List.map_congr_left h
theorem lsum_live {W : Int} {a : RnA} (ok : RnOk W a) : lsum (renumF a.gs a.lives) = a.live := by
  unfold lsum renumF RnA.live
  refine sum_map_map _ _ _ _ fun x hx => ?_
  obtain ⟨i, fs, rfl, hf⟩ := RnA.there.1 (ok.lives_there x hx)
  rw [List.length_map, a.gs_get, hf]
  unfold RnA.sz
  rw [Int.toNat_natCast, hf]
/-- What a step's word says of room. -/
theorem rn_says {W : Int} {a : RnA} (ok : RnOk W a) {c : Int} (hc : c = 1 ∨ c = 2 ∨ c = 3) {d : DoV} (hk : d.k = 1) {code : Int} (hcode : (rnStep c W d a).1.code = code) (h06 : code = 0 ∨ code = 6) :
    0 ≤ d.n ∧ d.n ≤ 4 ∧ (code = 0 → a.live + 1 + d.n ≤ W) ∧ (c ≠ 1 → code ≠ 0 → W < a.live + 1 + d.n) := by
  unfold rnStep at hcode
  rw [if_neg (by omega)] at hcode
  unfold rnDo at hcode
  by_cases hw : wrongM d ≠ 0
  · rw [if_pos hw] at hcode
    have h1 : wrongM d = code := hcode
    exfalso
    unfold wrongM at h1 hw
    split at h1
    · omega
    · split at h1
      · omega
      · split at h1
        · omega
        · split at h1
          · omega
          · rename_i g1 g2 g3 g4
            rw [if_neg g1, if_neg g2, if_neg g3, if_neg g4] at hw
            exact hw rfl
  · rw [if_neg hw] at hcode
    have hw0 : wrongM d = 0 := by omega
    obtain ⟨n0, n1⟩ := wrongM_n hw0 hk
    unfold rnKst at hcode
    rw [if_pos hk] at hcode
    have he : (rnNew c W a d.n.toNat).2.2 = code := by
      split at hcode
      · exact hcode
      · rename_i h
        have h2 : (0 : Int) = code := hcode
        omega
    obtain ⟨r1, r2⟩ := rn_room ok c d.n.toNat
    have hn : ((d.n.toNat : Nat) : Int) = d.n := by omega
    rw [he, hn] at r1 r2
    refine ⟨n0, n1, fun h => by have := r1 h; omega, fun h h2 => by have := r2 (by omega) h2; omega⟩
end Go.Proofs.Ytjphckfbbiehdaa

namespace Go.Proofs.Ytjphckfbbiehdaa
open Go.RowKit

set_option maxRecDepth 100000 in
set_option maxHeartbeats 32000000 in
theorem topRoom_walk (w : World) (c W : Int) (Ad : Option Addr) (nd cd : Nat) (ds : List DoV) (kk : Int) (hkk : (Lit.int .u8 kk).wf = true) (hcd : nd ≤ cd) (hcd2 : cd ≤ maxLen) (hD : Rd w (fun _ => True) 5 Ad nd (dosV ds)) :
    Calls Try.prog 4 #[.int .i64 c, .int .i64 W, .slice Ad nd cd, .int .u8 kk] w fun e w' => e = .returned (.bool true) ∧ Below w.heap.size w w' := by
  have hk : 0 ≤ kk ∧ kk ≤ 255 := by
    have h : (decide (IntKind.u8.min ≤ kk) && decide (kk ≤ IntKind.u8.max)) = true := hkk
    have e1 : IntKind.u8.min = 0 := by decide
    have e2 : IntKind.u8.max = 255 := by decide
    rw [e1, e2, Bool.and_eq_true, decide_eq_true_eq, decide_eq_true_eq] at h
    exact h
  clear hkk
  by_cases hz : runErr c W nd = 0
  · obtain ⟨hc, hW, hnd⟩ := runErr_zero hz
    have C1 := hide (runPlay_ok w c W Ad nd cd ds hz hD)
    have hdl : ds.length = nd := by have := hD.1; rw [dosV_length] at this; omega
    rcases Nat.eq_zero_or_pos nd with rfl | hpos
    · clear hz hcd hcd2 hD hc hW hnd hk
      go_enter Try.func4, Try.ntmps4
      go_wp2_with fail
      refine C1.out.mono ?_
      rintro e w1 ⟨A, c', B1, n1, c1, B2, n2, c2, rfl, hb1, -, -, -⟩
      obtain ⟨tm, htm⟩ : ∃ x, (rnRun c W ds rn0).2.times = x := ⟨_, rfl⟩
      rw [htm]
      obtain ⟨b9, hb9⟩ : ∃ x, w1.heap.size = x := ⟨_, rfl⟩
      have hS1 := ((Sep.nil No w).below hb1).blkAt 29 #[.slice A (0 : Nat) c', .slice B1 n1 c1, .slice B2 n2 c2, .int .i64 tm] hb9
      obtain ⟨x1, x2, x3, -⟩ := hS1.rules 0 (g := b9) (t := 29) rfl
      have x5 := (x1 0).trans (show _ = some (.slice A 0 c') from rfl)
      have HB := hide hS1.below_
      clear hb1 hS1 C1 x1 htm
      go_wp2_with fail
      go_ret
      exact ⟨rfl, HB.out⟩
    · obtain ⟨at_, hat⟩ : ∃ q : Nat, kk.toNat % nd = q := ⟨_, rfl⟩
      have hatn : at_ < nd := by rw [← hat]; exact Nat.mod_lt _ hpos
      have hrem : Int.tmod kk (nd : Int) = (at_ : Int) := by
        have e : kk = ((kk.toNat : Nat) : Int) := by omega
        rw [Int.tmod_eq_emod_of_nonneg hk.1, ← hat, Int.natCast_emod, ← e]
      have hkl : at_ < ds.length := by omega
      obtain ⟨ok, hol, ht0, ht1⟩ := rn_step_at c (show 0 ≤ W by omega) ds (by omega) at_ (by omega)
      have hget := rnRun_get c W ds at_ hkl
      obtain ⟨_, htold, _⟩ := rn_told c (show 0 ≤ W by omega) (ds.take at_)
      obtain ⟨FF, RR, f1, f2, f3, f4, f5, f6, f7⟩ := rn_ends c (show 0 ≤ W by omega) (ds.take at_)
      have hpre := rnRun_pre c W ds at_ ds.length (by omega) (Nat.le_refl _)
      rw [List.take_length] at hpre
      rw [← hpre] at htold f3
      have hL : lsum FF = (rnRun c W (ds.take at_) rn0).2.live := by rw [← f1]; exact lsum_live ok
      have hfl : FF.length ≤ 100 := by rw [List.length_take] at f6; omega
      have hLb := lsum_le FF f5
      have hsay := fun (code : Int) (hk1 : (ds[at_]).k = 1) (hcode : (rnStep c W ds[at_] (rnRun c W (ds.take at_) rn0).2).1.code = code) (h06 : code = 0 ∨ code = 6) => rn_says ok (show c = 1 ∨ c = 2 ∨ c = 3 by omega) hk1 hcode h06
      rw [← hL] at hsay
      obtain ⟨os, hos⟩ : ∃ l, (rnRun c W ds rn0).1 = l := ⟨_, rfl⟩
      rw [hos] at C1 htold f3 hget
      have CL := hide (fun (X : World) (A : Option Addr) (co : Nat) (hb : Below w.heap.size w X) (h1 : Rd X (fun _ => True) 3 A nd (outsV os)) (h2 : nd ≤ co) (h3 : co ≤ maxLen) => live_any X Ad A nd cd co at_ ds os hnd (by omega) hcd h2 hcd2 h3 (hD.below hb) h1 FF f5 hfl htold f3)
      obtain ⟨L, hLe⟩ : ∃ x, lsum FF = x := ⟨_, rfl⟩
      rw [hLe] at hsay hLb
      simp only [hLe] at CL
      obtain ⟨a1, a2⟩ := hLb
      have hol2 : at_ < os.length := (List.getElem?_eq_some_iff.1 hget).1
      obtain ⟨v0, v1, v2, v3, v4⟩ := dosV_at ds at_ hkl
      obtain ⟨u0, u1, u2⟩ := outsV_at os at_ hol2
      have hoe : os[at_] = (rnStep c W ds[at_] (rnRun c W (ds.take at_) rn0).2).1 := (List.getElem?_eq_some_iff.1 hget).2
      rw [← hoe] at hsay
      obtain ⟨d, hd'⟩ : ∃ d, ds[at_] = d := ⟨_, rfl⟩
      rw [hd'] at v0 v1 v2 v3 v4 hsay
      obtain ⟨o, ho'⟩ : ∃ o, os[at_] = o := ⟨_, rfl⟩
      rw [ho'] at u0 u1 u2 hsay
      obtain ⟨dk, dto, dfr, dat, dn⟩ := d
      obtain ⟨oc, orf, on⟩ := o
      dsimp only at v0 v1 v2 v3 v4 u0 u1 u2 hsay
      have HSAY := hide hsay
      have HDD := hide (fun (X : World) (hb : Below w.heap.size w X) => (hD.below hb).atN hatn)
      have HV := hide (⟨v0, v1, v2, v3, v4⟩ : _ ∧ _ ∧ _ ∧ _ ∧ _)
      have HU := hide (⟨u0, u1, u2⟩ : _ ∧ _ ∧ _)
      have w0 : IntKind.i64.wrap kk = kk := wrap64 _ (by omega) (by omega)
      have hFFl : L ≤ 200000 := by omega
      have t1 : decide ((at_ : Int) < 0) = false := by simp
      have t2 : decide ((nd : Int) ≤ (at_ : Int)) = false := by simp; omega
      have t3 : (nd == 0) = false := by simp; omega
      have t4 : ((nd : Int) == 0) = false := by simp; omega
      have t5 : (at_ : Int) < (nd : Int) := by omega
      have t6 : (0 : Int) ≤ (at_ : Int) := by omega
      have t7 : ((nd : Int) != 0) = true := by simp; omega
      clear hz hcd hcd2 hD hdl hat ok hol ht0 ht1 hget htold f1 f2 f3 f4 f5 f6 f7 hpre hL hfl hsay hLe v0 v1 v2 v3 v4 u0 u1 u2 hoe hos ho' hd' hol2 hkl
      go_enter Try.func4, Try.ntmps4
      go_wp2_with fail
      refine C1.out.mono ?_
      rintro e w1 ⟨A, c', B1, n1, c1, B2, n2, c2, rfl, hb1, hr1, -, hcc, hcm⟩
      obtain ⟨tm, htm⟩ : ∃ x, (rnRun c W ds rn0).2.times = x := ⟨_, rfl⟩
      rw [htm]
      obtain ⟨b9, hb9⟩ : ∃ x, w1.heap.size = x := ⟨_, rfl⟩
      have hS1 := ((Sep.nil No w).below hb1).blkAt 29 #[.slice A nd c', .slice B1 n1 c1, .slice B2 n2 c2, .int .i64 tm] hb9
      have hbb1 : Below w1.heap.size w1 (w1.alloc (.cells #[.slice A nd c', .slice B1 n1 c1, .slice B2 n2 c2, .int .i64 tm] 29)) := (Below.refl _ w1).alloc (Nat.le_refl _) _
      obtain ⟨ad, hA, _, had, hcA, hdA⟩ := HDD.out _ hS1.below_
      obtain ⟨v0, v1, v2, v3, v4⟩ := HV.out
      have e0 := hcA _ v0
      have e1 := hdA 0 _ v1
      have e2 := hdA 1 _ v2
      have e3 := hdA 2 _ v3
      have e4 := hdA 3 _ v4
      obtain ⟨x1, x2, x3, -⟩ := hS1.rules 0 (g := b9) (t := 29) rfl
      have x5 := (x1 0).trans (show _ = some (.slice A nd c') from rfl)
      have hS2 := hS1.blkAt 39 #[.int .i64 dk, .int .i64 dto, .int .i64 dfr, .int .i64 dat, .int .i64 dn] (g := b9 + 1) (by simp [hb9])
      have hbb2 : Below w1.heap.size w1 ((w1.alloc (.cells #[.slice A nd c', .slice B1 n1 c1, .slice B2 n2 c2, .int .i64 tm] 29)).alloc (.cells #[.int .i64 dk, .int .i64 dto, .int .i64 dfr, .int .i64 dat, .int .i64 dn] 39)) := hbb1.alloc (by simp) _
      have hr2 := (hr1.below hbb2).more (D' := fun _ => True) (fun _ _ _ => trivial)
      obtain ⟨ao, hAo, _, hao, hco, hdo⟩ := hr2.atN hatn
      obtain ⟨u0, u1, u2⟩ := HU.out
      have q0 := hco _ u0
      have q1 := hdo 0 _ u1
      have q2 := hdo 1 _ u2
      obtain ⟨z1, z2, z3, -⟩ := hS2.rules 0 (g := b9) (t := 29) rfl
      have z5 := (z1 0).trans (show _ = some (.slice A nd c') from rfl)
      obtain ⟨y1, y2, y3, -⟩ := hS2.rules 1 (g := b9 + 1) (t := 39) rfl
      have y5 := (y1 0).trans (show _ = some (.int .i64 dk) from rfl)
      have y9 := (y1 4).trans (show _ = some (.int .i64 dn) from rfl)
      have CL2 := hide (CL.out _ A c' hS2.below_ hr2 hcc hcm)
      have HS2 := hide hS2
      subst hA
      subst hAo
      clear hb1 hr1 hS1 hbb1 hcA hdA v0 v1 v2 v3 v4 hS2 hbb2 hr2 hco hdo u0 u1 u2 x1 z1 y1 htm CL HDD HV HU C1
      by_cases hk1 : dk = 1
      · subst hk1
        by_cases h0 : oc = 0
        · subst h0
          obtain ⟨g1, g2, g3, -⟩ := HSAY.out 0 rfl rfl (.inl rfl)
          have g4 := g3 rfl
          have s1 : decide ((0 : Int) ≤ dn) = true := by simp [g1]
          have s2 : decide (dn ≤ 4) = true := by simp [g2]
          have s3 : decide (L + 1 + dn ≤ W) = true := by simp [g4]
          have w1' : IntKind.i64.wrap (L + 1) = L + 1 := wrap64 _ (by omega) (by omega)
          have w2' : IntKind.i64.wrap (L + 1 + dn) = L + 1 + dn := wrap64 _ (by omega) (by omega)
          clear g3 HSAY
          by_cases hc1 : c = 1
          · subst hc1
            go_wp2_with fail
            refine CL2.out.mono ?_
            rintro e w5 ⟨rfl, hb5⟩
            have hS5 := HS2.out.below hb5
            obtain ⟨m1, m2, m3, -⟩ := hS5.rules 1 (g := b9 + 1) (t := 39) rfl
            have m9 := (m1 4).trans (show _ = some (.int .i64 dn) from rfl)
            have HB := hide hS5.below_
            clear hS5 hb5 CL2 HS2 m1
            go_wp2_with fail
            go_ret
            exact ⟨rfl, HB.out⟩
          · have yc : (c == 1) = false := by simp [hc1]
            clear hc1
            go_wp2_with fail
            refine CL2.out.mono ?_
            rintro e w5 ⟨rfl, hb5⟩
            have hS5 := HS2.out.below hb5
            obtain ⟨m1, m2, m3, -⟩ := hS5.rules 1 (g := b9 + 1) (t := 39) rfl
            have m9 := (m1 4).trans (show _ = some (.int .i64 dn) from rfl)
            have HB := hide hS5.below_
            clear hS5 hb5 CL2 HS2 m1
            go_wp2_with fail
            go_ret
            exact ⟨rfl, HB.out⟩
        · by_cases h6 : oc = 6
          · subst h6
            obtain ⟨g1, g2, -, g3⟩ := HSAY.out 6 rfl rfl (.inr rfl)
            have s1 : decide ((0 : Int) ≤ dn) = true := by simp [g1]
            have s2 : decide (dn ≤ 4) = true := by simp [g2]
            have w1' : IntKind.i64.wrap (L + 1) = L + 1 := wrap64 _ (by omega) (by omega)
            have w2' : IntKind.i64.wrap (L + 1 + dn) = L + 1 + dn := wrap64 _ (by omega) (by omega)
            by_cases hc1 : c = 1
            · subst hc1
              clear g3 HSAY h0
              by_cases hf : L + 1 + dn ≤ W
              · have s3 : decide (L + 1 + dn ≤ W) = true := by simp [hf]
                clear hf
                go_wp2_with fail
                refine CL2.out.mono ?_
                rintro e w5 ⟨rfl, hb5⟩
                have hS5 := HS2.out.below hb5
                obtain ⟨m1, m2, m3, -⟩ := hS5.rules 1 (g := b9 + 1) (t := 39) rfl
                have m9 := (m1 4).trans (show _ = some (.int .i64 dn) from rfl)
                have HB := hide hS5.below_
                clear hS5 hb5 CL2 HS2 m1
                go_wp2_with fail
                go_ret
                exact ⟨rfl, HB.out⟩
              · have s3 : decide (L + 1 + dn ≤ W) = false := by simp only [hf, decide_false]
                clear hf
                go_wp2_with fail
                refine CL2.out.mono ?_
                rintro e w5 ⟨rfl, hb5⟩
                have hS5 := HS2.out.below hb5
                obtain ⟨m1, m2, m3, -⟩ := hS5.rules 1 (g := b9 + 1) (t := 39) rfl
                have m9 := (m1 4).trans (show _ = some (.int .i64 dn) from rfl)
                have HB := hide hS5.below_
                clear hS5 hb5 CL2 HS2 m1
                go_wp2_with fail
                go_ret
                exact ⟨rfl, HB.out⟩
            · have yc : (c == 1) = false := by simp [hc1]
              have hf : ¬ L + 1 + dn ≤ W := by have := g3 hc1 (by decide); omega
              have s3 : decide (L + 1 + dn ≤ W) = false := by simp only [hf, decide_false]
              clear g3 HSAY h0 hf hc1
              go_wp2_with fail
              refine CL2.out.mono ?_
              rintro e w5 ⟨rfl, hb5⟩
              have hS5 := HS2.out.below hb5
              obtain ⟨m1, m2, m3, -⟩ := hS5.rules 1 (g := b9 + 1) (t := 39) rfl
              have m9 := (m1 4).trans (show _ = some (.int .i64 dn) from rfl)
              have HB := hide hS5.below_
              clear hS5 hb5 CL2 HS2 m1
              go_wp2_with fail
              go_ret
              exact ⟨rfl, HB.out⟩
          · have s1 : (oc != 0) = true := by simp [h0]
            have s2 : (oc != 6) = true := by simp [h6]
            have HB := hide HS2.out.below_
            clear h0 h6 CL2 HS2 HSAY
            go_wp2_with fail
            go_ret
            exact ⟨rfl, HB.out⟩
      · have s1 : (dk != 1) = true := by simp [hk1]
        have HB := hide HS2.out.below_
        clear hk1 CL2 HS2 HSAY
        go_wp2_with fail
        go_ret
        exact ⟨rfl, HB.out⟩
  · have C1 := hide (runPlay_no w c W Ad nd cd hz)
    obtain ⟨x, hx⟩ : ∃ x, runErr c W nd = x := ⟨_, rfl⟩
    rw [hx] at C1 hz
    have y1 : (x != 0) = true := by rw [bne_iff_ne]; exact hz
    clear hx hz hD hcd hcd2 hk
    go_enter Try.func4, Try.ntmps4
    go_wp2_with fail
    refine C1.out.mono ?_
    rintro e w1 ⟨rfl, hb1⟩
    obtain ⟨b9, hb9⟩ : ∃ x, w1.heap.size = x := ⟨_, rfl⟩
    have hS1 := ((Sep.nil No w).below hb1).blkAt 29 #[.slice none 0 0, .slice none 0 0, .slice none 0 0, .int .i64 0] hb9
    have HB := hide hS1.below_
    clear hb1 hS1 C1
    go_wp2_with fail
    go_ret
    exact ⟨rfl, HB.out⟩
end Go.Proofs.Ytjphckfbbiehdaa
