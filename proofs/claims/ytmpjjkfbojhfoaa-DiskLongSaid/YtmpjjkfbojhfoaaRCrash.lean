/- the reference's disk: keeps, walked -/
import Derived.Test.YtmpjjkfbojhfoaaRApp
import Derived.Test.YtmpjjkfbojhfoaaRAppA
import Derived.Test.YtmpjjkfbojhfoaaCrash
namespace Go.Proofs.Ytmpjjkfbojhfoaa
open Go.RowKit
set_option linter.unusedSectionVars false
variable [Zone]
set_option maxRecDepth 100000 in
set_option maxHeartbeats 1000000 in
theorem keeps_any (nm : ByteArray) (sv : Value) (al : Option Addr) (m capl : Nat) (D : List Deed) (z : Nat) (w : World) (hz : z ≤ 4294967296) (hD : D.length ≤ 100000) (hd : IsRActs w al m capl D) :
    Calls Try.prog 77 #[.agg #[.string nm, sv, .slice al m capl], .int .i64 (z : Int)] w fun e w' => ∃ v, e = .returned v ∧ OwnA w' w.heap.size v (keepsD z D) ∧ Below w.heap.size w w' := by
  have hm := hd.len.2.1
  have hcm := hd.len.2.2
  unfold maxLen at hcm
  have HD := Lib.hid (And.intro hd hD)
  clear hd hD
  go_enter Try.func77, Try.ntmps77
  go_wp2_with fail
  have hb1 : Below w.heap.size w (w.alloc (.cells #[.string nm, sv, .slice al m capl] 90)) := (Below.refl _ _).alloc (Nat.le_refl _) _
  have hx := heap_alloc_new w (.cells #[.string nm, sv, .slice al m capl] 90)
  obtain ⟨N, hN⟩ : ∃ N, N = w.heap.size := ⟨_, rfl⟩
  rw [← hN] at hx ⊢
  generalize w.alloc (.cells #[.string nm, sv, .slice al m capl] 90) = w1 at hb1 hx ⊢
  have HB1 := Lib.hid (And.intro hb1 (And.intro hN (heap_lt hx)))
  have c2 : w1.cell? ⟨N, 2, none⟩ = some (.slice al m capl) := cell_of_row _ _ _ _ _ _ hx
  clear hb1 hx hN
  go_loopw [1, 5, 6] (fun sn so si wr => ∃ (k nn : Nat) (E : List Deed), k ≤ m ∧ si = .int .i64 (k : Int) ∧ sn = .int .i64 (nn : Int) ∧ nn ≤ 4294967296 ∧ Hid (OwnA wr w1.heap.size so E) ∧ Hid (keepsD z D = E ++ keepsD nn (D.drop k) ∧ E.length ≤ k) ∧ Hid (Below w1.heap.size w1 wr)) (fun _ _ i _ => m - (intOf i).toNat)
  case atStart => exact ⟨0, z, [], by omega, rfl, rfl, hz, Lib.hid (OwnA.nil _ _), Lib.hid ⟨rfl, by simp⟩, Lib.hid (Below.refl _ _)⟩
  case round =>
    obtain ⟨k, nn, E, hk, rfl, rfl, hnn, hown, heq, hbl⟩ := hrel
    have c2' : wr.cell? ⟨N, 2, none⟩ = some (.slice al m capl) := (hbl.out.cell (p := ⟨N, 2, none⟩) HB1.out.2.2).trans c2
    by_cases hlt : k < m
    · have hi0 : (0 : Int) ≤ (k : Int) := by omega
      have hi5 : (k : Int) < (m : Int) := by omega
      by_cases hn0 : (0 : Int) < (nn : Int)
      · obtain ⟨g, off, q0, q1, q2, rfl, g0, g1, g2, hv⟩ := (HD.out.1.later (HB1.out.1.trans (hbl.out.mono HB1.out.1.size))).cells hlt
        have hkl : k < D.length := by rw [HD.out.1.len.1]; exact hlt
        obtain ⟨x, hx⟩ : ∃ x, x = D.getD k (.cut 0) := ⟨_, rfl⟩
        have hdk : D.drop k = x :: D.drop (k + 1) := by
          rw [List.drop_eq_getElem_cons hkl, hx, List.getD_eq_getElem?_getD, List.getElem?_eq_getElem hkl]; rfl
        rw [← hx] at hv
        have HX := Lib.hid hdk
        have HEL : Hid (E.length ≤ 100000) := Lib.hid (by have h1 := heq.out.2; have h2 := HD.out.1.len.1; have h3 := HD.out.2; omega)
        obtain ⟨av, cv, hsv, _⟩ := hown.out.acts
        subst hsv
        clear hdk hx
        cases x with
        | cut y =>
          obtain ⟨rfl, rfl, rfl⟩ := hv
          have hw1 : IntKind.i64.wrap ((nn : Int) - 1) = (((nn - 1 : Nat)) : Int) := by
            rw [IntWalk.i64_in _ (by omega)]
            omega
          have HIS := Lib.hid (show Is3 ((wr.alloc (.cells #[.bool true, .int .i64 (y : Int), .slice none 0 0] 92)).alloc (.cells #[.bool true, .int .i64 (y : Int), .slice none 0 0] 92)) 92 (some ⟨wr.heap.size + 1, 0, none⟩) 1 1 [(.bool true, .int .i64 (y : Int), .slice none 0 0)] from by
            have e := Is3.one (wr.alloc (.cells #[.bool true, .int .i64 (y : Int), .slice none 0 0] 92)) 92 (.bool true, .int .i64 (y : Int), .slice none 0 0) (by intro u hu; simp [flat3] at hu; rcases hu with rfl | rfl | rfl <;> trivial)
            rw [show (wr.alloc (.cells #[.bool true, .int .i64 (y : Int), .slice none 0 0] 92)).heap.size = wr.heap.size + 1 by simp] at e
            exact e)
          have HBX := Lib.hid (show Below wr.heap.size wr ((wr.alloc (.cells #[.bool true, .int .i64 (y : Int), .slice none 0 0] 92)).alloc (.cells #[.bool true, .int .i64 (y : Int), .slice none 0 0] 92)) from ((Below.refl _ _).alloc (Nat.le_refl _) _).alloc (by simp) _)
          go_wp2_with (at_builtin; go_loud (refine wpList_append_act rfl _ _ rfl w1.heap.size (.slice av E.length cv) E rfl (hown.out.later HBX.out) (wr.heap.size + 1) (.bool true, .int .i64 (y : Int), .slice none 0 0) (.cut y) rfl HIS.out ⟨rfl, rfl, rfl⟩ (by have := HEL.out; omega) (by have := HBX.out.size; have := hbl.out.size; omega) ?_; intro v2 w2 hown2 hg2; have H2 := Lib.hid (And.intro hown2 ((hbl.out.trans (HBX.out.mono hbl.out.size)).grown hg2 (by have := HBX.out.size; have := hbl.out.size; omega) (fun j hj => ((hown.out.later HBX.out).lt hj).1))); clear hown2 hg2))
          go_roundw
          case rel =>
            refine ⟨k + 1, nn - 1, E ++ [.cut y], by omega, by go_num, rfl, by omega, Lib.hid H2.out.1, Lib.hid ⟨?_, ?_⟩, Lib.hid H2.out.2⟩
            · rw [heq.out.1, HX.out, keepsD_cut _ _ (by omega)]
              simp
            · have := heq.out.2
              simp
              omega
          case measure => simp [intOf]; omega
        | more bs =>
          obtain ⟨rfl, rfl, a, q, cq, rfl, hbs, hzs⟩ := hv
          have HZS := Lib.hid hzs
          clear hzs
          obtain ⟨mn, hmn⟩ : ∃ mn, mn = min nn q := ⟨_, rfl⟩
          have hst := slice_to hbs mn (by omega)
          have hsl := hst.1
          have hql := hbs.1
          have HBS := Lib.hid (And.intro hst.2 hql)
          have hmi : min (nn : Int) (q : Int) = (mn : Int) := by omega
          have hw1 : IntKind.i64.wrap ((nn : Int) - (mn : Int)) = (((nn - mn : Nat)) : Int) := by
            rw [IntWalk.i64_in _ (by omega)]
            omega
          have HIS := Lib.hid (show Is3 ((wr.alloc (.cells #[.bool false, .int .i64 0, .slice a q cq] 92)).alloc (.cells #[.bool false, .int .i64 0, .slice a mn cq] 92)) 92 (some ⟨wr.heap.size + 1, 0, none⟩) 1 1 [(.bool false, .int .i64 0, .slice a mn cq)] from by
            have e := Is3.one (wr.alloc (.cells #[.bool false, .int .i64 0, .slice a q cq] 92)) 92 (.bool false, .int .i64 0, .slice a mn cq) (by intro u hu; simp [flat3] at hu; rcases hu with rfl | rfl | rfl <;> trivial)
            rw [show (wr.alloc (.cells #[.bool false, .int .i64 0, .slice a q cq] 92)).heap.size = wr.heap.size + 1 by simp] at e
            exact e)
          have HBX := Lib.hid (show Below wr.heap.size wr ((wr.alloc (.cells #[.bool false, .int .i64 0, .slice a q cq] 92)).alloc (.cells #[.bool false, .int .i64 0, .slice a mn cq] 92)) from ((Below.refl _ _).alloc (Nat.le_refl _) _).alloc (by simp) _)
          have HMN := Lib.hid hmn
          clear hst hbs hql hmn
          go_wp2_with (at_builtin; go_loud (refine wpList_append_act rfl _ _ rfl w1.heap.size (.slice av E.length cv) E rfl (hown.out.later HBX.out) (wr.heap.size + 1) (.bool false, .int .i64 0, .slice a mn cq) (.more (bs.take mn)) rfl HIS.out ⟨rfl, rfl, a, mn, cq, rfl, HBS.out.1.later HBX.out, fun hm => HZS.out (by have h1 := HMN.out; omega)⟩ (by have := HEL.out; omega) (by have := HBX.out.size; have := hbl.out.size; omega) ?_; intro v2 w2 hown2 hg2; have H2 := Lib.hid (And.intro hown2 ((hbl.out.trans (HBX.out.mono hbl.out.size)).grown hg2 (by have := HBX.out.size; have := hbl.out.size; omega) (fun j hj => ((hown.out.later HBX.out).lt hj).1))); clear hown2 hg2))
          go_roundw
          case rel =>
            refine ⟨k + 1, nn - mn, E ++ [.more (bs.take mn)], by omega, by go_num, rfl, by omega, Lib.hid H2.out.1, Lib.hid ⟨?_, ?_⟩, Lib.hid H2.out.2⟩
            · have h9 := HMN.out
              rw [← HBS.out.2] at h9
              rw [heq.out.1, HX.out, keepsD_more _ _ (by omega), ← h9]
              simp
            · have := heq.out.2
              simp
              omega
          case measure => simp [intOf]; omega
      · have hkz : nn = 0 := by omega
        go_wp2_with fail
        go_ret
        have h1 := heq.out.1
        rw [hkz, keepsD_zero, List.append_nil] at h1
        rw [h1]
        exact ⟨_, rfl, hown.out.base HB1.out.1.size, HB1.out.1.trans (hbl.out.mono HB1.out.1.size)⟩
    · obtain rfl : k = m := by omega
      have hi5 : ¬ (k : Int) < (k : Int) := by omega
      go_wp2_with fail
      go_ret
      have h1 := heq.out.1
      rw [List.drop_of_length_le (by rw [HD.out.1.len.1]; exact Nat.le_refl _), show keepsD nn [] = [] by simp [keepsD], List.append_nil] at h1
      rw [h1]
      exact ⟨_, rfl, hown.out.base HB1.out.1.size, HB1.out.1.trans (hbl.out.mono HB1.out.1.size)⟩
end Go.Proofs.Ytmpjjkfbojhfoaa

/- the reference's disk: Crash -/
set_option linter.unusedSimpArgs false
namespace Go.Proofs.Ytmpjjkfbojhfoaa
open Go.RowKit
set_option linter.unusedSectionVars false
variable [Zone]
/-- a file behind a crash. -/
def crashAt (K : List Int) (j : Nat) (x : FileV) : FileV := (x.1, runD x.2.1 (keepsD (unitK K j x.2.2).toNat x.2.2), [])
def CrashedR (K : List Int) (R L : List FileV) : Prop := L.length = R.length ∧ ∀ j, j < R.length → L.getD j f0 = crashAt K j (R.getD j f0)
set_option maxRecDepth 100000 in
set_option maxHeartbeats 4000000 in
theorem rCrash_any (r base : Nat) (R : List FileV) (N : Int) (fz : Bool) (lf : Int) (out : Bool) (ao : Option Addr) (kn kc : Nat) (K : List Int) (w : World) (hzw : ZW w) (h : RefAt w r base R N fz lf out) (hfit : ∀ k, k < R.length → FitF (R.getD k f0) ∧ (R.getD k f0).2.2.length ≤ 100000) (hbase : base ≤ w.heap.size)
    (hKl : K.length = kn) (hkc : kn ≤ kc ∧ kc ≤ maxLen) (hK : ∀ w', MovedR r base w w' → ∀ i, i < kn → ∃ b off x, ao = some ⟨b, off, none⟩ ∧ w'.cell? ⟨b, off + i, none⟩ = some (.int .i64 x) ∧ K.getD i 0 = x ∧ -9223372036854775808 ≤ x ∧ x ≤ 9223372036854775807) :
    Calls Try.prog 66 #[.pointer (some ⟨r, 0, none⟩), .slice ao kn kc] w fun e w' => e = .returned (.int .i64 0) ∧ (∃ L, RefAt w' r base L N false 0 false ∧ CrashedR K R L) ∧ MovedR r base w w' := by
  have HZW0 := Lib.hid hzw
  clear hzw
  obtain ⟨n, hn⟩ : ∃ n, n = R.length := ⟨_, rfl⟩
  have HN0 := Lib.hid hn
  have hkn := hkc.1
  have hkm := hkc.2
  unfold maxLen at hkm
  have HKK := Lib.hid (And.intro hKl hK)
  have HH := Lib.hid (And.intro h (And.intro hfit hbase))
  have hnb : n ≤ 9223372036854775807 := by
    obtain ⟨_, _, hr, hf, _⟩ := h.rows'
    have := hf.1
    have := hf.2
    unfold maxLen at *
    omega
  clear h hfit hbase hKl hkc hK hn
  go_enter Try.func66, Try.ntmps66
  go_wp2_with fail
  go_loopw [5, 6, 7] (fun i _ _ wr => ∃ (k : Nat) (L : List FileV), k ≤ n ∧ i = .int .i64 (k : Int) ∧ Hid (RefAt wr r base L N fz lf out) ∧ Hid (L.length = n ∧ ∀ j, j < n → L.getD j f0 = if j < k then crashAt K j (R.getD j f0) else R.getD j f0) ∧ Hid (MovedR r base w wr)) (fun i _ _ _ => n - (intOf i).toNat)
  case atStart => exact ⟨0, R, by omega, rfl, Lib.hid HH.out.1, Lib.hid ⟨HN0.out.symm, fun j hj => by rw [if_neg (by omega)]⟩, Lib.hid (MovedR.refl _ _ _)⟩
  case round =>
    obtain ⟨k, L, hk, rfl, hrf, hL, hm⟩ := hrel
    have HN : Hid (n = L.length) := Lib.hid hL.out.1.symm
    obtain ⟨va, vc, hvr, _⟩ := hrf.out.rows'
    have r0 : wr.cell? ⟨r, 0, none⟩ = some (.slice va n vc) := by rw [HN.out]; exact hvr.cells.1
    clear hvr
    by_cases hlt : k < n
    · have hk0 : (0 : Int) ≤ (k : Int) := by omega
      have hk1 : (k : Int) < (n : Int) := by omega
      obtain ⟨x, hx⟩ : ∃ x, x = L.getD k f0 := ⟨_, rfl⟩
      have HXR : Hid (x = R.getD k f0) := Lib.hid (by rw [hx, hL.out.2 k hlt, if_neg (by omega)])
      have HXE := Lib.hid hx
      obtain ⟨nm, hnm⟩ : ∃ nm, nm = x.1 := ⟨_, rfl⟩
      have HNM := Lib.hid hnm
      have HFIT : Hid (FitF x ∧ x.2.2.length ≤ 100000) := Lib.hid (by rw [HXR.out]; exact HH.out.2.1 k (by rw [← HN0.out]; exact hlt))
      obtain ⟨U, hU⟩ : ∃ U, U = unitsD x.2.2 := ⟨_, rfl⟩
      have hUb : U ≤ 4294967296 := by have := HFIT.out.1.2; omega
      have HU := Lib.hid hU
      clear hU hnm hx
      have HUN : Hid (∀ (nm : ByteArray) (sv : Value) (al : Option Addr) (m capl : Nat) (w : World), IsRActs w al m capl x.2.2 → Calls Try.prog 53 #[.agg #[.string nm, sv, .slice al m capl]] w fun e w' => e = .returned (.int .i64 (U : Nat)) ∧ Below w.heap.size w w') := Lib.hid (fun nm sv al m capl w hd => by
        have := units_any nm sv al m capl x.2.2 w hd (by rw [← HU.out]; exact hUb)
        rw [← HU.out] at this
        exact this)
      have hw1 : IntKind.i64.wrap ((U : Int) + 1) = (U : Int) + 1 := IntWalk.i64_in _ (by omega)
      obtain ⟨g, cap, sa, sn, sc, al, m, capl, hr, hg, q0, q1, q2, hb, hd, hat⟩ := hrf.out.at (k := k) (by rw [hL.out.1]; exact hlt)
      have r0' : wr.cell? ⟨r, 0, none⟩ = some (.slice (some ⟨g, 0, none⟩) n cap) := by rw [HN.out]; exact hr.cells.1
      have hcap := hg.2.2.1
      have hcm := hg.2.2.2
      rw [← HN.out] at hcap
      unfold maxLen at hcm
      rw [← HXE.out] at q0 hb hd
      rw [← HNM.out] at q0
      have HD := Lib.hid hd
      clear hr hg hb hd hat r0
      by_cases hin : k < kn
      · have hin' : (k : Int) < (kn : Int) := by omega
        go_wp2_with fail
        refine (HUN.out _ _ _ _ _ _ HD.out).mono ?_
        rintro e W ⟨rfl, hbW⟩
        have HBW := Lib.hid hbW
        clear hbW q0 q1 q2 r0' HD
        have HW : Hid (RefAt W r base L N fz lf out) := Lib.hid (hrf.out.grown HBW.out).2.2
        have HZW : Hid (ZW W) := Lib.hid (HZW0.out.mono (Nat.le_trans hm.out.below.size HBW.out.size))
        have HMW : Hid (MovedR r base wr W) := Lib.hid (MovedR.of_below HBW.out (hrf.out.grown HBW.out).1 (hrf.out.grown HBW.out).2.1)
        obtain ⟨b, off, v, hao, hc, hKv, hv0, hv1⟩ := HKK.out.2 W (hm.out.trans HMW.out) k hin
        subst hao
        have huk : (v.tmod ((U : Int) + 1) + ((U : Int) + 1)).tmod ((U : Int) + 1) = (((unitK K k x.2.2).toNat : Nat) : Int) := by
          rw [mod_mod]
          unfold unitK
          rw [if_pos (by rw [HKK.out.1]; exact hin), hKv, HU.out, Int.toNat_of_nonneg (Int.emod_nonneg _ (by omega))]
        have HZU : Hid ((unitK K k x.2.2).toNat ≤ U) := Lib.hid (by have := unitK_le K k x.2.2; have := HU.out; omega)
        obtain ⟨z, hz⟩ : ∃ z, z = (unitK K k x.2.2).toNat := ⟨_, rfl⟩
        rw [← hz] at huk HZU
        have HZE := Lib.hid hz
        have hw2 : IntKind.i64.wrap (v.tmod ((U : Int) + 1) + ((U : Int) + 1)) = v.tmod ((U : Int) + 1) + ((U : Int) + 1) := IntWalk.i64_in _ (by
          have h1 := Int.tmod_lt_of_pos v (b := (U : Int) + 1) (by omega)
          have h2 : -((U : Int) + 1) < v.tmod ((U : Int) + 1) := by
            have := Int.tmod_lt_of_pos (-v) (b := (U : Int) + 1) (by omega)
            rw [Int.neg_tmod] at this
            omega
          omega)
        have hn0 : ¬ ((U : Int) + 1 = 0) := by omega
        have hn1 : (((U : Int) + 1) == 0) = false := by simp; omega
        replace HZU : Hid (z ≤ unitsD x.2.2) := Lib.hid (by rw [← HU.out]; exact HZU.out)
        clear hz hv0 hv1 hKv
        obtain ⟨g, cap, sa, sn, sc, al, m, capl, hr, hg, q0, q1, q2, hb, hd, hat⟩ := HW.out.at (k := k) (by rw [hL.out.1]; exact hlt)
        have hrl := hr.lt
        have r0 : W.cell? ⟨r, 0, none⟩ = some (.slice (some ⟨g, 0, none⟩) n cap) := by rw [HN.out]; exact hr.cells.1
        have hcap := hg.2.2.1
        have hcm := hg.2.2.2
        rw [← HN.out] at hcap
        unfold maxLen at hcm
        have hbase : base ≤ W.heap.size := by have := HW.out.1; omega
        rw [← HXE.out] at q0 hb hd hat
        rw [← HNM.out] at q0
        have HS : Hid (∀ w' : World, Below W.heap.size W w' → (w'.cell? ⟨r, 0, none⟩ = some (.slice (some ⟨g, 0, none⟩) n cap) ∧ w'.cell? ⟨g, k * 3, none⟩ = some (.string nm) ∧ w'.cell? ⟨g, k * 3 + 1, none⟩ = some (.slice sa sn sc) ∧ w'.cell? ⟨g, k * 3 + 2, none⟩ = some (.slice al m capl) ∧ w'.frozen? ⟨g, k * 3 + 1, none⟩ = false)) := Lib.hid (fun w' hb' => ⟨(hb'.cell (p := ⟨r, 0, none⟩) hrl).trans r0, (hb'.cell (p := ⟨g, k * 3, none⟩) hg.1).trans q0, (hb'.cell (p := ⟨g, k * 3 + 1, none⟩) hg.1).trans q1, (hb'.cell (p := ⟨g, k * 3 + 2, none⟩) hg.1).trans q2, (hat w' hb').1.1 _⟩)
        have HX := Lib.hid (And.intro hb (And.intro hd (And.intro (HFIT.out.1) (And.intro HFIT.out.2 (And.intro (And.intro hrl hbase) (And.intro trivial (show k < L.length by rw [hL.out.1]; exact hlt)))))))
        have HAT := Lib.hid hat
        have HZK : Hid (z ≤ 4294967296) := Lib.hid (by have := HFIT.out.1.2; have := HZU.out; omega)
        have HNX : Hid (((L.set k (x.1, runD x.2.1 (keepsD z x.2.2), [])).length = n ∧ ∀ j, j < n → (L.set k (x.1, runD x.2.1 (keepsD z x.2.2), [])).getD j f0 = if j < k + 1 then crashAt K j (R.getD j f0) else R.getD j f0) ∧ ∀ w', MovedR r base W w' → MovedR r base w w') := Lib.hid (by
          refine ⟨⟨by rw [List.length_set]; exact hL.out.1, fun j hj => ?_⟩, fun w' h => (hm.out.trans HMW.out).trans h⟩
          by_cases e : j = k
          · subst e
            rw [getD_set_at (by rw [hL.out.1]; exact hlt), if_pos (by omega), ← HXR.out]
            unfold crashAt
            rw [← HZE.out]
          · rw [getD_set_ne e, hL.out.2 j hj]
            by_cases h2 : j < k
            · rw [if_pos h2, if_pos (by omega)]
            · rw [if_neg h2, if_neg (by omega)])
        clear hr hg hb hd hat hrl hbase
        go_wp2_with fail
        refine wp_region_D 25 (S := fun w' => w'.cell? ⟨r, 0, none⟩ = some (.slice (some ⟨g, 0, none⟩) n cap) ∧ w'.cell? ⟨g, k * 3, none⟩ = some (.string nm) ∧ w'.cell? ⟨g, k * 3 + 1, none⟩ = some (.slice sa sn sc) ∧ w'.cell? ⟨g, k * 3 + 2, none⟩ = some (.slice al m capl) ∧ w'.frozen? ⟨g, k * 3 + 1, none⟩ = false) (by kernel_rfl) ?hS0 (fun hHeld => ?_)
        case hS0 => (exact HS.out _ (Below.refl _ _).drew)
        refine anyD_take (i := 0) (v := ?v1) rfl (by kernel_rfl) (by kernel_rfl) (by kernel_rfl) (by kernel_rfl) (fun _ _ _ h => h) (Or.inl ⟨?hw1, ?hy1⟩) (by assumption) ?_
        case hw1 => rfl
        case hy1 => (intro w hSw; (try dsimp only at hSw); go_simp; (first | done | with_reducible rfl))
        try simp only [Act.put, List.setIfInBounds_toArray, List.set_cons_zero, List.set_cons_succ]
        refine anyD_take (i := 1) (v := ?v2) rfl (by kernel_rfl) (by kernel_rfl) (by kernel_rfl) (by kernel_rfl) (fun _ _ _ h => h) (Or.inl ⟨?hw2, ?hy2⟩) (by assumption) ?_
        case hw2 => rfl
        case hy2 => (intro w hSw; (try dsimp only at hSw); go_simp; (first | done | with_reducible rfl))
        try simp only [Act.put, List.setIfInBounds_toArray, List.set_cons_zero, List.set_cons_succ]
        refine anyD_take (i := 2) (v := ?v3) rfl (by kernel_rfl) (by kernel_rfl) (by kernel_rfl) (by kernel_rfl) (fun _ _ _ h => h) (Or.inl ⟨?hw3, ?hy3⟩) (by assumption) ?_
        case hw3 => rfl
        case hy3 => (intro w hSw; (try dsimp only at hSw); go_simp; (first | done | with_reducible rfl))
        try simp only [Act.put, List.setIfInBounds_toArray, List.set_cons_zero, List.set_cons_succ]
        refine anyD_take (i := 3) (v := ?v4) rfl (by kernel_rfl) (by kernel_rfl) (by kernel_rfl) (by kernel_rfl) (fun _ _ _ h => h) (Or.inl ⟨?hw4, ?hy4⟩) (by assumption) ?_
        case hw4 => rfl
        case hy4 => (intro w hSw; (try dsimp only at hSw); go_simp; (first | done | with_reducible rfl))
        try simp only [Act.put, List.setIfInBounds_toArray, List.set_cons_zero, List.set_cons_succ]
        refine anyD_take (i := 4) (v := ?v5) rfl (by kernel_rfl) (by kernel_rfl) (by kernel_rfl) (by kernel_rfl) (fun _ _ _ h => h) (Or.inl ⟨?hw5, ?hy5⟩) (by assumption) ?_
        case hw5 => rfl
        case hy5 => (intro w hSw; (try dsimp only at hSw); go_simp; (first | done | with_reducible rfl))
        try simp only [Act.put, List.setIfInBounds_toArray, List.set_cons_zero, List.set_cons_succ]
        refine anyD_take (i := 5) (v := ?v6) rfl (by kernel_rfl) (by kernel_rfl) (by kernel_rfl) (by kernel_rfl) (fun _ _ _ h => h) (Or.inl ⟨?hw6, ?hy6⟩) (by assumption) ?_
        case hw6 => rfl
        case hy6 => (intro w hSw; (try dsimp only at hSw); go_simp; (first | done | with_reducible rfl))
        try simp only [Act.put, List.setIfInBounds_toArray, List.set_cons_zero, List.set_cons_succ]
        refine anyD_take (i := 6) (v := ?v7) rfl (by kernel_rfl) (by kernel_rfl) (by kernel_rfl) (by kernel_rfl) (fun _ _ _ h => h) (Or.inl ⟨?hw7, ?hy7⟩) (by assumption) ?_
        case hw7 => rfl
        case hy7 => (intro w hSw; (try dsimp only at hSw); go_simp; (first | done | with_reducible rfl))
        try simp only [Act.put, List.setIfInBounds_toArray, List.set_cons_zero, List.set_cons_succ]
        refine anyD_take (i := 7) (v := ?v8) rfl (by kernel_rfl) (by kernel_rfl) (by kernel_rfl) (by kernel_rfl) (fun _ _ _ h => h) (Or.inl ⟨?hw8, ?hy8⟩) (by assumption) ?_
        case hw8 => rfl
        case hy8 => (intro w hSw; (try dsimp only at hSw); go_simp; (first | done | with_reducible rfl))
        try simp only [Act.put, List.setIfInBounds_toArray, List.set_cons_zero, List.set_cons_succ]
        refine anyD_take (i := 8) (v := ?v9) rfl (by kernel_rfl) (by kernel_rfl) (by kernel_rfl) (by kernel_rfl) (fun _ _ _ h => h) (Or.inl ⟨?hw9, ?hy9⟩) (by assumption) ?_
        case hw9 => rfl
        case hy9 => (intro w hSw; (try dsimp only at hSw); go_simp; (first | done | with_reducible rfl))
        try simp only [Act.put, List.setIfInBounds_toArray, List.set_cons_zero, List.set_cons_succ]
        refine anyD_take (i := 9) (v := ?v10) rfl (by kernel_rfl) (by kernel_rfl) (by kernel_rfl) (by kernel_rfl) (fun _ _ _ h => h) (Or.inl ⟨?hw10, ?hy10⟩) (by assumption) ?_
        case hw10 => rfl
        case hy10 => (intro w hSw; (try dsimp only at hSw); go_simp; (first | done | with_reducible rfl))
        try simp only [Act.put, List.setIfInBounds_toArray, List.set_cons_zero, List.set_cons_succ]
        refine anyD_take (i := 10) (v := ?v11) rfl (by kernel_rfl) (by kernel_rfl) (by kernel_rfl) (by kernel_rfl) (fun _ _ _ h => h) (Or.inl ⟨?hw11, ?hy11⟩) (by assumption) ?_
        case hw11 => rfl
        case hy11 => (intro w hSw; (try dsimp only at hSw); go_simp; (first | done | with_reducible rfl))
        try simp only [Act.put, List.setIfInBounds_toArray, List.set_cons_zero, List.set_cons_succ]
        refine anyD_take (i := 11) (v := ?v12) rfl (by kernel_rfl) (by kernel_rfl) (by kernel_rfl) (by kernel_rfl) (fun _ _ _ h => h) (Or.inl ⟨?hw12, ?hy12⟩) (by assumption) ?_
        case hw12 => rfl
        case hy12 => (intro w hSw; (try dsimp only at hSw); go_simp; (first | done | with_reducible rfl))
        try simp only [Act.put, List.setIfInBounds_toArray, List.set_cons_zero, List.set_cons_succ]
        refine anyD_take (i := 12) (v := ?v13) rfl (by kernel_rfl) (by kernel_rfl) (by kernel_rfl) (by kernel_rfl) (fun _ _ _ h => h) (Or.inl ⟨?hw13, ?hy13⟩) (by assumption) ?_
        case hw13 => rfl
        case hy13 => (intro w hSw; (try dsimp only at hSw); go_simp; (first | done | with_reducible rfl))
        try simp only [Act.put, List.setIfInBounds_toArray, List.set_cons_zero, List.set_cons_succ]
        refine anyD_take (i := 13) (v := ?v14) rfl (by kernel_rfl) (by kernel_rfl) (by kernel_rfl) (by kernel_rfl) (fun _ _ _ h => h) (Or.inl ⟨?hw14, ?hy14⟩) (by assumption) ?_
        case hw14 => rfl
        case hy14 => (intro w hSw; (try dsimp only at hSw); go_simp; (first | done | with_reducible rfl))
        try simp only [Act.put, List.setIfInBounds_toArray, List.set_cons_zero, List.set_cons_succ]
        refine anyD_take (i := 14) (v := ?v15) rfl (by kernel_rfl) (by kernel_rfl) (by kernel_rfl) (by kernel_rfl) (fun _ _ _ h => h) (Or.inl ⟨?hw15, ?hy15⟩) (by assumption) ?_
        case hw15 => rfl
        case hy15 => (intro w hSw; (try dsimp only at hSw); go_simp; (first | done | with_reducible rfl))
        try simp only [Act.put, List.setIfInBounds_toArray, List.set_cons_zero, List.set_cons_succ]
        refine anyD_take (i := 15) (v := ?v16) rfl (by kernel_rfl) (by kernel_rfl) (by kernel_rfl) (by kernel_rfl) (fun _ _ _ h => h) (Or.inl ⟨?hw16, ?hy16⟩) (by assumption) ?_
        case hw16 => rfl
        case hy16 => (intro w hSw; (try dsimp only at hSw); go_simp; (first | done | with_reducible rfl))
        try simp only [Act.put, List.setIfInBounds_toArray, List.set_cons_zero, List.set_cons_succ]
        refine anyD_take (i := 16) (v := ?v17) rfl (by kernel_rfl) (by kernel_rfl) (by kernel_rfl) (by kernel_rfl) (fun _ _ _ h => h) (Or.inl ⟨?hw17, ?hy17⟩) (by assumption) ?_
        case hw17 => rfl
        case hy17 => (intro w hSw; (try dsimp only at hSw); go_simp; (first | done | with_reducible rfl))
        try simp only [Act.put, List.setIfInBounds_toArray, List.set_cons_zero, List.set_cons_succ]
        refine anyD_take (i := 17) (v := ?v18) rfl (by kernel_rfl) (by kernel_rfl) (by kernel_rfl) (by kernel_rfl) (fun _ _ _ h => h) (Or.inl ⟨?hw18, ?hy18⟩) (by assumption) ?_
        case hw18 => rfl
        case hy18 => (intro w hSw; (try dsimp only at hSw); go_simp; (first | done | with_reducible rfl))
        try simp only [Act.put, List.setIfInBounds_toArray, List.set_cons_zero, List.set_cons_succ]
        refine anyD_take (i := 18) (v := ?v19) rfl (by kernel_rfl) (by kernel_rfl) (by kernel_rfl) (by kernel_rfl) (fun _ _ _ h => h) (Or.inl ⟨?hw19, ?hy19⟩) (by assumption) ?_
        case hw19 => rfl
        case hy19 => (intro w hSw; (try dsimp only at hSw); go_simp; (first | done | with_reducible rfl))
        try simp only [Act.put, List.setIfInBounds_toArray, List.set_cons_zero, List.set_cons_succ]
        refine anyD_take (i := 19) (v := ?v20) rfl (by kernel_rfl) (by kernel_rfl) (by kernel_rfl) (by kernel_rfl) (fun _ _ _ h => h) (Or.inl ⟨?hw20, ?hy20⟩) (by assumption) ?_
        case hw20 => rfl
        case hy20 => (intro w hSw; (try dsimp only at hSw); go_simp; (first | done | with_reducible rfl))
        try simp only [Act.put, List.setIfInBounds_toArray, List.set_cons_zero, List.set_cons_succ]
        refine anyD_take (i := 20) (v := ?v21) rfl (by kernel_rfl) (by kernel_rfl) (by kernel_rfl) (by kernel_rfl) (fun _ _ _ h => h) (Or.inl ⟨?hw21, ?hy21⟩) (by assumption) ?_
        case hw21 => rfl
        case hy21 => (intro w hSw; (try dsimp only at hSw); go_simp; (first | done | with_reducible rfl))
        try simp only [Act.put, List.setIfInBounds_toArray, List.set_cons_zero, List.set_cons_succ]
        refine anyD_ready (rs := [21]) (by kernel_rfl) (by simp) ?_
        refine AllD.cons (o := _) rfl (fun K hK => ?step22) ?_
        case step22 =>
          go_simp
          refine (keeps_any nm (.slice sa sn sc) al m capl x.2.2 z _ HZK.out HX.out.2.2.2.1 (HX.out.2.1.later (Below.refl _ _).drew)).mono ?_
          rintro e w2 ⟨v2, rfl, hown2, hb2⟩
          have hb21 : Below W.heap.size W w2 := Below.trans (Below.refl _ W).drew hb2
          obtain ⟨av2, cv2, hv2, hd2⟩ := hown2.acts
          obtain ⟨m2, hm2⟩ : ∃ m2, m2 = (keepsD z x.2.2).length := ⟨_, rfl⟩
          rw [← hm2] at hv2 hd2
          have HD2 := Lib.hid hd2
          subst hv2
          clear hown2 hd2 hm2 hb2
          (try dsimp only)
          refine hK.out _ _ ?hS22 (fun hHeld => ?_)
          case hS22 => (intro _; (exact HS.out _ hb21))
          replace hHeld := hHeld (by decide)
          clear hK K
          try simp only [Act.put, List.setIfInBounds_toArray, List.set_cons_zero, List.set_cons_succ]
          refine anyD_ready (rs := [22]) (by kernel_rfl) (by simp) ?_
          refine AllD.cons (o := _) rfl (fun K hK => ?step23) ?_
          case step23 =>
            go_simp
            refine (rbytes_any sa sn sc x.2.1 av2 m2 cv2 (keepsD z x.2.2) _ (HX.out.1.later hb21) HD2.out (fitsD_keeps _ _ _ HX.out.2.2.1.1) (by have := units_keeps x.2.2 z; have := HX.out.2.2.1.2; omega)).mono ?_
            rintro e w3 ⟨v3, rfl, hown3, hb3⟩
            have hb22 : Below W.heap.size W w3 := hb21.trans (hb3.mono hb21.size)
            obtain ⟨av3, cv3, hv3, hbs3, _⟩ := hown3.bytes
            obtain ⟨m3, hm3⟩ : ∃ m3, m3 = (runD x.2.1 (keepsD z x.2.2)).length := ⟨_, rfl⟩
            rw [← hm3] at hv3 hbs3
            have HB3 : Hid (IsBytesZ _ _ _ _ _) := Lib.hid ⟨hbs3, ZS.of_own (by rw [← hv3]; exact hown3) (fun k hk => Nat.lt_of_lt_of_le (HZW.out k hk) hb21.size)⟩
            have q1b : w3.cell? ⟨g, k * 3 + 1, none⟩ = some (.slice sa sn sc) := (HS.out w3 hb22).2.2.1
            have f1b : w3.frozen? ⟨g, k * 3 + 1, none⟩ = false := (HS.out w3 hb22).2.2.2.2
            subst hv3
            clear hown3 hbs3 hm3 hb3
            (try dsimp only)
            refine hK.out _ _ ?hS23 (fun hHeld => ?_)
            case hS23 => (intro _; (exact HS.out _ hb22))
            replace hHeld := hHeld (by decide)
            clear hK K
            try simp only [Act.put, List.setIfInBounds_toArray, List.set_cons_zero, List.set_cons_succ]
            refine anyD_ready (rs := [23]) (by kernel_rfl) (by simp) ?_
            refine AllD.cons (o := _) rfl (fun K hK => ?step24) ?_
            case step24 =>
              go_simp
              refine hK.out _ _ ?hS24 (fun hHeld => ?_)
              case hS24 => (intro _; (exact HS.out _ hb22))
              replace hHeld := hHeld (by decide)
              clear hK K
              try simp only [Act.put, List.setIfInBounds_toArray, List.set_cons_zero, List.set_cons_succ]
              refine anyD_take (i := 24) (v := ?v25) rfl (by kernel_rfl) (by kernel_rfl) (by kernel_rfl) (by kernel_rfl) (fun _ _ _ h => h) (Or.inl ⟨?hw25, ?hy25⟩) (by assumption) ?_
              case hw25 => rfl
              case hy25 => (intro w hSw; (try dsimp only at hSw); go_simp; (first | done | with_reducible rfl))
              try simp only [Act.put, List.setIfInBounds_toArray, List.set_cons_zero, List.set_cons_succ]
              refine anyD_ready (rs := [25]) (by kernel_rfl) (by simp) ?_
              refine AllD.cons (o := _) rfl (fun K hK => ?step26) ?_
              case step26 =>
                go_simp
                refine hK.out _ _ ?hS26 (fun hHeld => ?_)
                case hS26 => exact fun h => absurd rfl h
                clear hK K
                try simp only [Act.put, List.setIfInBounds_toArray, List.set_cons_zero, List.set_cons_succ]
                refine anyD_done (by kernel_rfl) ?_ _
                obtain ⟨hRX, hMX⟩ := (HAT.out w3 hb22).2.2 _ _ _ _ HB3.out
                generalize hX : w3.setCell ⟨g, k * 3 + 1, none⟩ _ = X at hRX hMX ⊢
                clear hX
                obtain ⟨g', cap', _, _, _, _, _, _, hrX, hgX, _, _, q2X, _, _, hATX⟩ := hRX.at (k := k) (by rw [List.length_set]; exact HX.out.2.2.2.2.2.2)
                have hrX' := hrX.cells.1
                have x0 : X.cell? ⟨r, 0, none⟩ = some (.slice (some ⟨g', 0, none⟩) n cap') := by
                  rw [hrX', List.length_set, ← HN.out]
                have zX := (hATX X (Below.refl _ _)).1.1 (k * 3 + 2)
                have HF := Lib.hid ((hATX X (Below.refl _ _)).2.1 none 0 0 [] (IsRActs.nil X))
                have HM := Lib.hid (((MovedR.of_below hb22 HX.out.2.2.2.2.1.1 HX.out.2.2.2.2.1.2).trans hMX).trans HF.out.2)
                have hcap' := hgX.2.2.1
                have hcap2 := hgX.2.2.2
                rw [List.length_set, ← HN.out] at hcap'
                unfold maxLen at hcap2
                clear hRX hMX hrX hgX hATX hrX' hb22 hb21
                go_wp2_with fail
                go_roundw
                case rel =>
                  have hF := HF.out.1
                  rw [List.set_set, getD_set_at HX.out.2.2.2.2.2.2] at hF
                  obtain ⟨e1, e2⟩ := HNX.out
                  exact ⟨k + 1, _, by omega, by go_num, Lib.hid hF, Lib.hid e1, Lib.hid (e2 _ HM.out)⟩
                case measure => simp [intOf]; omega
              exact AllD.nil
            exact AllD.nil
          exact AllD.nil
        exact AllD.nil
      · have hin' : ¬ (k : Int) < (kn : Int) := by omega
        have huk : (unitK K k x.2.2).toNat = 0 := by
          unfold unitK
          rw [if_neg (by rw [HKK.out.1]; exact hin)]
          rfl
        have HUK := Lib.hid huk
        go_wp2_with fail
        refine (HUN.out _ _ _ _ _ _ HD.out).mono ?_
        rintro e W ⟨rfl, hbW⟩
        have HBW := Lib.hid hbW
        clear hbW q0 q1 q2 r0' HD
        have HW : Hid (RefAt W r base L N fz lf out) := Lib.hid (hrf.out.grown HBW.out).2.2
        have HZW : Hid (ZW W) := Lib.hid (HZW0.out.mono (Nat.le_trans hm.out.below.size HBW.out.size))
        have HMW : Hid (MovedR r base wr W) := Lib.hid (MovedR.of_below HBW.out (hrf.out.grown HBW.out).1 (hrf.out.grown HBW.out).2.1)
        have HZU : Hid (0 ≤ unitsD x.2.2) := Lib.hid (Nat.zero_le _)
        obtain ⟨g, cap, sa, sn, sc, al, m, capl, hr, hg, q0, q1, q2, hb, hd, hat⟩ := HW.out.at (k := k) (by rw [hL.out.1]; exact hlt)
        have hrl := hr.lt
        have r0 : W.cell? ⟨r, 0, none⟩ = some (.slice (some ⟨g, 0, none⟩) n cap) := by rw [HN.out]; exact hr.cells.1
        have hcap := hg.2.2.1
        have hcm := hg.2.2.2
        rw [← HN.out] at hcap
        unfold maxLen at hcm
        have hbase : base ≤ W.heap.size := by have := HW.out.1; omega
        rw [← HXE.out] at q0 hb hd hat
        rw [← HNM.out] at q0
        have HS : Hid (∀ w' : World, Below W.heap.size W w' → (w'.cell? ⟨r, 0, none⟩ = some (.slice (some ⟨g, 0, none⟩) n cap) ∧ w'.cell? ⟨g, k * 3, none⟩ = some (.string nm) ∧ w'.cell? ⟨g, k * 3 + 1, none⟩ = some (.slice sa sn sc) ∧ w'.cell? ⟨g, k * 3 + 2, none⟩ = some (.slice al m capl) ∧ w'.frozen? ⟨g, k * 3 + 1, none⟩ = false)) := Lib.hid (fun w' hb' => ⟨(hb'.cell (p := ⟨r, 0, none⟩) hrl).trans r0, (hb'.cell (p := ⟨g, k * 3, none⟩) hg.1).trans q0, (hb'.cell (p := ⟨g, k * 3 + 1, none⟩) hg.1).trans q1, (hb'.cell (p := ⟨g, k * 3 + 2, none⟩) hg.1).trans q2, (hat w' hb').1.1 _⟩)
        have HX := Lib.hid (And.intro hb (And.intro hd (And.intro (HFIT.out.1) (And.intro HFIT.out.2 (And.intro (And.intro hrl hbase) (And.intro trivial (show k < L.length by rw [hL.out.1]; exact hlt)))))))
        have HAT := Lib.hid hat
        have HZK : Hid (0 ≤ 4294967296) := Lib.hid (by have := HFIT.out.1.2; have := HZU.out; omega)
        have HNX : Hid (((L.set k (x.1, runD x.2.1 (keepsD 0 x.2.2), [])).length = n ∧ ∀ j, j < n → (L.set k (x.1, runD x.2.1 (keepsD 0 x.2.2), [])).getD j f0 = if j < k + 1 then crashAt K j (R.getD j f0) else R.getD j f0) ∧ ∀ w', MovedR r base W w' → MovedR r base w w') := Lib.hid (by
          refine ⟨⟨by rw [List.length_set]; exact hL.out.1, fun j hj => ?_⟩, fun w' h => (hm.out.trans HMW.out).trans h⟩
          by_cases e : j = k
          · subst e
            rw [getD_set_at (by rw [hL.out.1]; exact hlt), if_pos (by omega), ← HXR.out]
            unfold crashAt
            rw [HUK.out]
          · rw [getD_set_ne e, hL.out.2 j hj]
            by_cases h2 : j < k
            · rw [if_pos h2, if_pos (by omega)]
            · rw [if_neg h2, if_neg (by omega)])
        clear hr hg hb hd hat hrl hbase
        go_wp2_with fail
        refine wp_region_D 25 (S := fun w' => w'.cell? ⟨r, 0, none⟩ = some (.slice (some ⟨g, 0, none⟩) n cap) ∧ w'.cell? ⟨g, k * 3, none⟩ = some (.string nm) ∧ w'.cell? ⟨g, k * 3 + 1, none⟩ = some (.slice sa sn sc) ∧ w'.cell? ⟨g, k * 3 + 2, none⟩ = some (.slice al m capl) ∧ w'.frozen? ⟨g, k * 3 + 1, none⟩ = false) (by kernel_rfl) ?hS0 (fun hHeld => ?_)
        case hS0 => (exact HS.out _ (Below.refl _ _).drew)
        refine anyD_take (i := 0) (v := ?v501) rfl (by kernel_rfl) (by kernel_rfl) (by kernel_rfl) (by kernel_rfl) (fun _ _ _ h => h) (Or.inl ⟨?hw501, ?hy501⟩) (by assumption) ?_
        case hw501 => rfl
        case hy501 => (intro w hSw; (try dsimp only at hSw); go_simp; (first | done | with_reducible rfl))
        try simp only [Act.put, List.setIfInBounds_toArray, List.set_cons_zero, List.set_cons_succ]
        refine anyD_take (i := 1) (v := ?v502) rfl (by kernel_rfl) (by kernel_rfl) (by kernel_rfl) (by kernel_rfl) (fun _ _ _ h => h) (Or.inl ⟨?hw502, ?hy502⟩) (by assumption) ?_
        case hw502 => rfl
        case hy502 => (intro w hSw; (try dsimp only at hSw); go_simp; (first | done | with_reducible rfl))
        try simp only [Act.put, List.setIfInBounds_toArray, List.set_cons_zero, List.set_cons_succ]
        refine anyD_take (i := 2) (v := ?v503) rfl (by kernel_rfl) (by kernel_rfl) (by kernel_rfl) (by kernel_rfl) (fun _ _ _ h => h) (Or.inl ⟨?hw503, ?hy503⟩) (by assumption) ?_
        case hw503 => rfl
        case hy503 => (intro w hSw; (try dsimp only at hSw); go_simp; (first | done | with_reducible rfl))
        try simp only [Act.put, List.setIfInBounds_toArray, List.set_cons_zero, List.set_cons_succ]
        refine anyD_take (i := 3) (v := ?v504) rfl (by kernel_rfl) (by kernel_rfl) (by kernel_rfl) (by kernel_rfl) (fun _ _ _ h => h) (Or.inl ⟨?hw504, ?hy504⟩) (by assumption) ?_
        case hw504 => rfl
        case hy504 => (intro w hSw; (try dsimp only at hSw); go_simp; (first | done | with_reducible rfl))
        try simp only [Act.put, List.setIfInBounds_toArray, List.set_cons_zero, List.set_cons_succ]
        refine anyD_take (i := 4) (v := ?v505) rfl (by kernel_rfl) (by kernel_rfl) (by kernel_rfl) (by kernel_rfl) (fun _ _ _ h => h) (Or.inl ⟨?hw505, ?hy505⟩) (by assumption) ?_
        case hw505 => rfl
        case hy505 => (intro w hSw; (try dsimp only at hSw); go_simp; (first | done | with_reducible rfl))
        try simp only [Act.put, List.setIfInBounds_toArray, List.set_cons_zero, List.set_cons_succ]
        refine anyD_take (i := 5) (v := ?v506) rfl (by kernel_rfl) (by kernel_rfl) (by kernel_rfl) (by kernel_rfl) (fun _ _ _ h => h) (Or.inl ⟨?hw506, ?hy506⟩) (by assumption) ?_
        case hw506 => rfl
        case hy506 => (intro w hSw; (try dsimp only at hSw); go_simp; (first | done | with_reducible rfl))
        try simp only [Act.put, List.setIfInBounds_toArray, List.set_cons_zero, List.set_cons_succ]
        refine anyD_take (i := 6) (v := ?v507) rfl (by kernel_rfl) (by kernel_rfl) (by kernel_rfl) (by kernel_rfl) (fun _ _ _ h => h) (Or.inl ⟨?hw507, ?hy507⟩) (by assumption) ?_
        case hw507 => rfl
        case hy507 => (intro w hSw; (try dsimp only at hSw); go_simp; (first | done | with_reducible rfl))
        try simp only [Act.put, List.setIfInBounds_toArray, List.set_cons_zero, List.set_cons_succ]
        refine anyD_take (i := 7) (v := ?v508) rfl (by kernel_rfl) (by kernel_rfl) (by kernel_rfl) (by kernel_rfl) (fun _ _ _ h => h) (Or.inl ⟨?hw508, ?hy508⟩) (by assumption) ?_
        case hw508 => rfl
        case hy508 => (intro w hSw; (try dsimp only at hSw); go_simp; (first | done | with_reducible rfl))
        try simp only [Act.put, List.setIfInBounds_toArray, List.set_cons_zero, List.set_cons_succ]
        refine anyD_take (i := 8) (v := ?v509) rfl (by kernel_rfl) (by kernel_rfl) (by kernel_rfl) (by kernel_rfl) (fun _ _ _ h => h) (Or.inl ⟨?hw509, ?hy509⟩) (by assumption) ?_
        case hw509 => rfl
        case hy509 => (intro w hSw; (try dsimp only at hSw); go_simp; (first | done | with_reducible rfl))
        try simp only [Act.put, List.setIfInBounds_toArray, List.set_cons_zero, List.set_cons_succ]
        refine anyD_take (i := 9) (v := ?v510) rfl (by kernel_rfl) (by kernel_rfl) (by kernel_rfl) (by kernel_rfl) (fun _ _ _ h => h) (Or.inl ⟨?hw510, ?hy510⟩) (by assumption) ?_
        case hw510 => rfl
        case hy510 => (intro w hSw; (try dsimp only at hSw); go_simp; (first | done | with_reducible rfl))
        try simp only [Act.put, List.setIfInBounds_toArray, List.set_cons_zero, List.set_cons_succ]
        refine anyD_take (i := 10) (v := ?v511) rfl (by kernel_rfl) (by kernel_rfl) (by kernel_rfl) (by kernel_rfl) (fun _ _ _ h => h) (Or.inl ⟨?hw511, ?hy511⟩) (by assumption) ?_
        case hw511 => rfl
        case hy511 => (intro w hSw; (try dsimp only at hSw); go_simp; (first | done | with_reducible rfl))
        try simp only [Act.put, List.setIfInBounds_toArray, List.set_cons_zero, List.set_cons_succ]
        refine anyD_take (i := 11) (v := ?v512) rfl (by kernel_rfl) (by kernel_rfl) (by kernel_rfl) (by kernel_rfl) (fun _ _ _ h => h) (Or.inl ⟨?hw512, ?hy512⟩) (by assumption) ?_
        case hw512 => rfl
        case hy512 => (intro w hSw; (try dsimp only at hSw); go_simp; (first | done | with_reducible rfl))
        try simp only [Act.put, List.setIfInBounds_toArray, List.set_cons_zero, List.set_cons_succ]
        refine anyD_take (i := 12) (v := ?v513) rfl (by kernel_rfl) (by kernel_rfl) (by kernel_rfl) (by kernel_rfl) (fun _ _ _ h => h) (Or.inl ⟨?hw513, ?hy513⟩) (by assumption) ?_
        case hw513 => rfl
        case hy513 => (intro w hSw; (try dsimp only at hSw); go_simp; (first | done | with_reducible rfl))
        try simp only [Act.put, List.setIfInBounds_toArray, List.set_cons_zero, List.set_cons_succ]
        refine anyD_take (i := 13) (v := ?v514) rfl (by kernel_rfl) (by kernel_rfl) (by kernel_rfl) (by kernel_rfl) (fun _ _ _ h => h) (Or.inl ⟨?hw514, ?hy514⟩) (by assumption) ?_
        case hw514 => rfl
        case hy514 => (intro w hSw; (try dsimp only at hSw); go_simp; (first | done | with_reducible rfl))
        try simp only [Act.put, List.setIfInBounds_toArray, List.set_cons_zero, List.set_cons_succ]
        refine anyD_take (i := 14) (v := ?v515) rfl (by kernel_rfl) (by kernel_rfl) (by kernel_rfl) (by kernel_rfl) (fun _ _ _ h => h) (Or.inl ⟨?hw515, ?hy515⟩) (by assumption) ?_
        case hw515 => rfl
        case hy515 => (intro w hSw; (try dsimp only at hSw); go_simp; (first | done | with_reducible rfl))
        try simp only [Act.put, List.setIfInBounds_toArray, List.set_cons_zero, List.set_cons_succ]
        refine anyD_take (i := 15) (v := ?v516) rfl (by kernel_rfl) (by kernel_rfl) (by kernel_rfl) (by kernel_rfl) (fun _ _ _ h => h) (Or.inl ⟨?hw516, ?hy516⟩) (by assumption) ?_
        case hw516 => rfl
        case hy516 => (intro w hSw; (try dsimp only at hSw); go_simp; (first | done | with_reducible rfl))
        try simp only [Act.put, List.setIfInBounds_toArray, List.set_cons_zero, List.set_cons_succ]
        refine anyD_take (i := 16) (v := ?v517) rfl (by kernel_rfl) (by kernel_rfl) (by kernel_rfl) (by kernel_rfl) (fun _ _ _ h => h) (Or.inl ⟨?hw517, ?hy517⟩) (by assumption) ?_
        case hw517 => rfl
        case hy517 => (intro w hSw; (try dsimp only at hSw); go_simp; (first | done | with_reducible rfl))
        try simp only [Act.put, List.setIfInBounds_toArray, List.set_cons_zero, List.set_cons_succ]
        refine anyD_take (i := 17) (v := ?v518) rfl (by kernel_rfl) (by kernel_rfl) (by kernel_rfl) (by kernel_rfl) (fun _ _ _ h => h) (Or.inl ⟨?hw518, ?hy518⟩) (by assumption) ?_
        case hw518 => rfl
        case hy518 => (intro w hSw; (try dsimp only at hSw); go_simp; (first | done | with_reducible rfl))
        try simp only [Act.put, List.setIfInBounds_toArray, List.set_cons_zero, List.set_cons_succ]
        refine anyD_take (i := 18) (v := ?v519) rfl (by kernel_rfl) (by kernel_rfl) (by kernel_rfl) (by kernel_rfl) (fun _ _ _ h => h) (Or.inl ⟨?hw519, ?hy519⟩) (by assumption) ?_
        case hw519 => rfl
        case hy519 => (intro w hSw; (try dsimp only at hSw); go_simp; (first | done | with_reducible rfl))
        try simp only [Act.put, List.setIfInBounds_toArray, List.set_cons_zero, List.set_cons_succ]
        refine anyD_take (i := 19) (v := ?v520) rfl (by kernel_rfl) (by kernel_rfl) (by kernel_rfl) (by kernel_rfl) (fun _ _ _ h => h) (Or.inl ⟨?hw520, ?hy520⟩) (by assumption) ?_
        case hw520 => rfl
        case hy520 => (intro w hSw; (try dsimp only at hSw); go_simp; (first | done | with_reducible rfl))
        try simp only [Act.put, List.setIfInBounds_toArray, List.set_cons_zero, List.set_cons_succ]
        refine anyD_take (i := 20) (v := ?v521) rfl (by kernel_rfl) (by kernel_rfl) (by kernel_rfl) (by kernel_rfl) (fun _ _ _ h => h) (Or.inl ⟨?hw521, ?hy521⟩) (by assumption) ?_
        case hw521 => rfl
        case hy521 => (intro w hSw; (try dsimp only at hSw); go_simp; (first | done | with_reducible rfl))
        try simp only [Act.put, List.setIfInBounds_toArray, List.set_cons_zero, List.set_cons_succ]
        refine anyD_ready (rs := [21]) (by kernel_rfl) (by simp) ?_
        refine AllD.cons (o := _) rfl (fun K hK => ?step522) ?_
        case step522 =>
          go_simp
          refine (keeps_any nm (.slice sa sn sc) al m capl x.2.2 0 _ HZK.out HX.out.2.2.2.1 (HX.out.2.1.later (Below.refl _ _).drew)).mono ?_
          rintro e w2 ⟨v2, rfl, hown2, hb2⟩
          have hb21 : Below W.heap.size W w2 := Below.trans (Below.refl _ W).drew hb2
          obtain ⟨av2, cv2, hv2, hd2⟩ := hown2.acts
          obtain ⟨m2, hm2⟩ : ∃ m2, m2 = (keepsD 0 x.2.2).length := ⟨_, rfl⟩
          rw [← hm2] at hv2 hd2
          have HD2 := Lib.hid hd2
          subst hv2
          clear hown2 hd2 hm2 hb2
          (try dsimp only)
          refine hK.out _ _ ?hS522 (fun hHeld => ?_)
          case hS522 => (intro _; (exact HS.out _ hb21))
          replace hHeld := hHeld (by decide)
          clear hK K
          try simp only [Act.put, List.setIfInBounds_toArray, List.set_cons_zero, List.set_cons_succ]
          refine anyD_ready (rs := [22]) (by kernel_rfl) (by simp) ?_
          refine AllD.cons (o := _) rfl (fun K hK => ?step523) ?_
          case step523 =>
            go_simp
            refine (rbytes_any sa sn sc x.2.1 av2 m2 cv2 (keepsD 0 x.2.2) _ (HX.out.1.later hb21) HD2.out (fitsD_keeps _ _ _ HX.out.2.2.1.1) (by have := units_keeps x.2.2 0; have := HX.out.2.2.1.2; omega)).mono ?_
            rintro e w3 ⟨v3, rfl, hown3, hb3⟩
            have hb22 : Below W.heap.size W w3 := hb21.trans (hb3.mono hb21.size)
            obtain ⟨av3, cv3, hv3, hbs3, _⟩ := hown3.bytes
            obtain ⟨m3, hm3⟩ : ∃ m3, m3 = (runD x.2.1 (keepsD 0 x.2.2)).length := ⟨_, rfl⟩
            rw [← hm3] at hv3 hbs3
            have HB3 : Hid (IsBytesZ _ _ _ _ _) := Lib.hid ⟨hbs3, ZS.of_own (by rw [← hv3]; exact hown3) (fun k hk => Nat.lt_of_lt_of_le (HZW.out k hk) hb21.size)⟩
            have q1b : w3.cell? ⟨g, k * 3 + 1, none⟩ = some (.slice sa sn sc) := (HS.out w3 hb22).2.2.1
            have f1b : w3.frozen? ⟨g, k * 3 + 1, none⟩ = false := (HS.out w3 hb22).2.2.2.2
            subst hv3
            clear hown3 hbs3 hm3 hb3
            (try dsimp only)
            refine hK.out _ _ ?hS523 (fun hHeld => ?_)
            case hS523 => (intro _; (exact HS.out _ hb22))
            replace hHeld := hHeld (by decide)
            clear hK K
            try simp only [Act.put, List.setIfInBounds_toArray, List.set_cons_zero, List.set_cons_succ]
            refine anyD_ready (rs := [23]) (by kernel_rfl) (by simp) ?_
            refine AllD.cons (o := _) rfl (fun K hK => ?step524) ?_
            case step524 =>
              go_simp
              refine hK.out _ _ ?hS524 (fun hHeld => ?_)
              case hS524 => (intro _; (exact HS.out _ hb22))
              replace hHeld := hHeld (by decide)
              clear hK K
              try simp only [Act.put, List.setIfInBounds_toArray, List.set_cons_zero, List.set_cons_succ]
              refine anyD_take (i := 24) (v := ?v525) rfl (by kernel_rfl) (by kernel_rfl) (by kernel_rfl) (by kernel_rfl) (fun _ _ _ h => h) (Or.inl ⟨?hw525, ?hy525⟩) (by assumption) ?_
              case hw525 => rfl
              case hy525 => (intro w hSw; (try dsimp only at hSw); go_simp; (first | done | with_reducible rfl))
              try simp only [Act.put, List.setIfInBounds_toArray, List.set_cons_zero, List.set_cons_succ]
              refine anyD_ready (rs := [25]) (by kernel_rfl) (by simp) ?_
              refine AllD.cons (o := _) rfl (fun K hK => ?step526) ?_
              case step526 =>
                go_simp
                refine hK.out _ _ ?hS526 (fun hHeld => ?_)
                case hS526 => exact fun h => absurd rfl h
                clear hK K
                try simp only [Act.put, List.setIfInBounds_toArray, List.set_cons_zero, List.set_cons_succ]
                refine anyD_done (by kernel_rfl) ?_ _
                obtain ⟨hRX, hMX⟩ := (HAT.out w3 hb22).2.2 _ _ _ _ HB3.out
                generalize hX : w3.setCell ⟨g, k * 3 + 1, none⟩ _ = X at hRX hMX ⊢
                clear hX
                obtain ⟨g', cap', _, _, _, _, _, _, hrX, hgX, _, _, q2X, _, _, hATX⟩ := hRX.at (k := k) (by rw [List.length_set]; exact HX.out.2.2.2.2.2.2)
                have hrX' := hrX.cells.1
                have x0 : X.cell? ⟨r, 0, none⟩ = some (.slice (some ⟨g', 0, none⟩) n cap') := by
                  rw [hrX', List.length_set, ← HN.out]
                have zX := (hATX X (Below.refl _ _)).1.1 (k * 3 + 2)
                have HF := Lib.hid ((hATX X (Below.refl _ _)).2.1 none 0 0 [] (IsRActs.nil X))
                have HM := Lib.hid (((MovedR.of_below hb22 HX.out.2.2.2.2.1.1 HX.out.2.2.2.2.1.2).trans hMX).trans HF.out.2)
                have hcap' := hgX.2.2.1
                have hcap2 := hgX.2.2.2
                rw [List.length_set, ← HN.out] at hcap'
                unfold maxLen at hcap2
                clear hRX hMX hrX hgX hATX hrX' hb22 hb21
                go_wp2_with fail
                go_roundw
                case rel =>
                  have hF := HF.out.1
                  rw [List.set_set, getD_set_at HX.out.2.2.2.2.2.2] at hF
                  obtain ⟨e1, e2⟩ := HNX.out
                  exact ⟨k + 1, _, by omega, by go_num, Lib.hid hF, Lib.hid e1, Lib.hid (e2 _ HM.out)⟩
                case measure => simp [intOf]; omega
              exact AllD.nil
            exact AllD.nil
          exact AllD.nil
        exact AllD.nil
    · obtain rfl : k = n := by omega
      have hk1 : ¬ (k : Int) < (k : Int) := by omega
      have hR := hrf.out
      obtain ⟨v, hr⟩ := hR.row
      have hr2 := heap_setCell_same wr r 4 _ _ (.bool false) hr
      have hr3 := heap_setCell_same _ r 2 _ _ (.bool false) hr2
      have hr4 := heap_setCell_same _ r 3 _ _ (.int .i64 0) hr3
      have HA := Lib.hid (hR.cell (off := 4) (u := .bool false) (N' := N) (fz' := fz) (lf' := lf) (out' := false) (fun v hr => heap_setCell_same wr r 4 _ _ (.bool false) hr))
      have HB := Lib.hid (HA.out.1.cell (off := 2) (u := .bool false) (N' := N) (fz' := false) (lf' := lf) (out' := false) (fun v hr => heap_setCell_same _ r 2 _ _ (.bool false) hr))
      have HC := Lib.hid (HB.out.1.cell (off := 3) (u := .int .i64 0) (N' := N) (fz' := false) (lf' := 0) (out' := false) (fun v hr => heap_setCell_same _ r 3 _ _ (.int .i64 0) hr))
      have c4 := hr.cells.2.2.2.2
      have c2 := hr.cells.2.2.1
      have c3 := hr.cells.2.2.2.1
      have z4 : wr.frozen? ⟨r, 4, none⟩ = false := frozen_of_row _ _ _ _ _ hr
      have z2 : (wr.setCell ⟨r, 4, none⟩ (.bool false)).frozen? ⟨r, 2, none⟩ = false := frozen_of_row _ _ _ _ _ hr2
      have z3 : ((wr.setCell ⟨r, 4, none⟩ (.bool false)).setCell ⟨r, 2, none⟩ (.bool false)).frozen? ⟨r, 3, none⟩ = false := frozen_of_row _ _ _ _ _ hr3
      have y2 : wr.frozen? ⟨r, 2, none⟩ = false := frozen_of_row _ _ _ _ _ hr
      have y3 : wr.frozen? ⟨r, 3, none⟩ = false := frozen_of_row _ _ _ _ _ hr
      clear hR hr hr2 hr3 hr4
      go_wp2_with fail
      go_ret
      exact ⟨rfl, ⟨L, HC.out.1, by rw [hL.out.1, HN0.out], fun j hj => by rw [hL.out.2 j (by rw [HN0.out]; exact hj), if_pos (by rw [HN0.out]; exact hj)]⟩, ((hm.out.trans HA.out.2).trans HB.out.2).trans HC.out.2⟩
end Go.Proofs.Ytmpjjkfbojhfoaa
