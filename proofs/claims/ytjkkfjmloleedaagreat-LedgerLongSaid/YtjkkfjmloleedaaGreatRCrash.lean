/- the reference's disk: Crash -/
import Derived.Test.YtjkkfjmloleedaaGreatRName
import Derived.Test.YtjkkfjmloleedaaGreatRKeepW
import Derived.Test.YtjkkfjmloleedaaGreatCrash
set_option linter.unusedSimpArgs false
namespace Go.Proofs.YtjkkfjmloleedaaGreat
open Go.RowKit
set_option linter.unusedSectionVars false
variable [Zone]
/-- a file behind a crash. -/
def crashAt (K : List Int) (j : Nat) (x : FileV) : FileV := (x.1, runD x.2.1 (keepsD (unitK K j x.2.2).toNat x.2.2), [])
def CrashedR (K : List Int) (R L : List FileV) : Prop := L.length = R.length ∧ ∀ j, j < R.length → L.getD j f0 = crashAt K j (R.getD j f0)
set_option maxRecDepth 100000 in
set_option maxHeartbeats 4000000 in
theorem rCrash_any (r base : Nat) (R : List FileV) (N : Int) (fz : Bool) (lf : Int) (out : Bool) (ao : Option Addr) (kn kc : Nat) (K : List Int) (w : World) (hzw : ZW w) (h : RefAt w r base R N fz lf out) (hfit : ∀ k, k < R.length → FitF (R.getD k f0) ∧ (R.getD k f0).2.2.length ≤ 100000) (hbase : base ≤ w.heap.size)
    (hKl : K.length = kn) (hkc : kn ≤ kc ∧ kc ≤ maxLen) (hK : ∀ w', MovedR r base w w' → ∀ i, i < kn → ∃ b off x, ao = some ⟨b, off, none⟩ ∧ w'.cell? ⟨b, off + i, none⟩ = some (.int .i64 x) ∧ K.getD i 0 = x ∧ -9223372036854775808 ≤ x ∧ x ≤ 9223372036854775807) :
    Calls Tryz.prog 19 #[.pointer (some ⟨r, 0, none⟩), .slice ao kn kc] w fun e w' => e = .returned (.int .i64 0) ∧ (∃ L, RefAt w' r base L N false 0 false ∧ CrashedR K R L) ∧ MovedR r base w w' := by
  have HZW0 := Lib.hid hzw
  clear hzw
  obtain ⟨n, hn⟩ : ∃ n, n = R.length := ⟨_, rfl⟩
  have HN0 := Lib.hid hn
  have hkn := hkc.1
  have hkm := hkc.2
  unfold maxLen at hkm
  have HKK := Lib.hid (And.intro hKl hK)
  have HH := Lib.hid (And.intro h (And.intro hfit hbase))
  have hnb : n ≤ 9223372036854775807 := by
    obtain ⟨_, _, hr, hf, _⟩ := h.rows'
    have := hf.1
    have := hf.2
    unfold maxLen at *
    omega
  clear h hfit hbase hKl hkc hK hn
  go_enter Tryz.func19, Tryz.ntmps19
  go_wp2_with fail
  go_loopw [5, 6, 7] (fun i _ _ wr => ∃ (k : Nat) (L : List FileV), k ≤ n ∧ i = .int .i64 (k : Int) ∧ Hid (RefAt wr r base L N fz lf out) ∧ Hid (L.length = n ∧ ∀ j, j < n → L.getD j f0 = if j < k then crashAt K j (R.getD j f0) else R.getD j f0) ∧ Hid (MovedR r base w wr)) (fun i _ _ _ => n - (intOf i).toNat)
  case atStart => exact ⟨0, R, by omega, rfl, Lib.hid HH.out.1, Lib.hid ⟨HN0.out.symm, fun j hj => by rw [if_neg (by omega)]⟩, Lib.hid (MovedR.refl _ _ _)⟩
  case round =>
    obtain ⟨k, L, hk, rfl, hrf, hL, hm⟩ := hrel
    have HN : Hid (n = L.length) := Lib.hid hL.out.1.symm
    obtain ⟨va, vc, hvr, _⟩ := hrf.out.rows'
    have r0 : wr.cell? ⟨r, 0, none⟩ = some (.slice va n vc) := by rw [HN.out]; exact hvr.cells.1
    clear hvr
    by_cases hlt : k < n
    · have hk0 : (0 : Int) ≤ (k : Int) := by omega
      have hk1 : (k : Int) < (n : Int) := by omega
      obtain ⟨x, hx⟩ : ∃ x, x = L.getD k f0 := ⟨_, rfl⟩
      have HXR : Hid (x = R.getD k f0) := Lib.hid (by rw [hx, hL.out.2 k hlt, if_neg (by omega)])
      have HXE := Lib.hid hx
      obtain ⟨nm, hnm⟩ : ∃ nm, nm = x.1 := ⟨_, rfl⟩
      have HNM := Lib.hid hnm
      have HFIT : Hid (FitF x ∧ x.2.2.length ≤ 100000) := Lib.hid (by rw [HXR.out]; exact HH.out.2.1 k (by rw [← HN0.out]; exact hlt))
      obtain ⟨U, hU⟩ : ∃ U, U = unitsD x.2.2 := ⟨_, rfl⟩
      have hUb : U ≤ 4294967296 := by have := HFIT.out.1.2; omega
      have HU := Lib.hid hU
      clear hU hnm hx
      have HUN : Hid (∀ (nm : ByteArray) (sv : Value) (al : Option Addr) (m capl : Nat) (w : World), IsRActs w al m capl x.2.2 → Calls Tryz.prog 53 #[.agg #[.string nm, sv, .slice al m capl]] w fun e w' => e = .returned (.int .i64 (U : Nat)) ∧ Below w.heap.size w w') := Lib.hid (fun nm sv al m capl w hd => by
        have := units_any nm sv al m capl x.2.2 w hd (by rw [← HU.out]; exact hUb)
        rw [← HU.out] at this
        exact this)
      have hw1 : IntKind.i64.wrap ((U : Int) + 1) = (U : Int) + 1 := IntWalk.i64_in _ (by omega)
      obtain ⟨g, cap, sa, sn, sc, al, m, capl, hr, hg, q0, q1, q2, hb, hd, hat⟩ := hrf.out.at (k := k) (by rw [hL.out.1]; exact hlt)
      have r0' : wr.cell? ⟨r, 0, none⟩ = some (.slice (some ⟨g, 0, none⟩) n cap) := by rw [HN.out]; exact hr.cells.1
      have hcap := hg.2.2.1
      have hcm := hg.2.2.2
      rw [← HN.out] at hcap
      unfold maxLen at hcm
      rw [← HXE.out] at q0 hb hd
      rw [← HNM.out] at q0
      have HD := Lib.hid hd
      clear hr hg hb hd hat r0
      by_cases hin : k < kn
      · have hin' : (k : Int) < (kn : Int) := by omega
        go_wp2_with fail
        refine (HUN.out _ _ _ _ _ _ HD.out).mono ?_
        rintro e W ⟨rfl, hbW⟩
        have HBW := Lib.hid hbW
        clear hbW q0 q1 q2 r0' HD
        have HW : Hid (RefAt W r base L N fz lf out) := Lib.hid (hrf.out.grown HBW.out).2.2
        have HZW : Hid (ZW W) := Lib.hid (HZW0.out.mono (Nat.le_trans hm.out.below.size HBW.out.size))
        have HMW : Hid (MovedR r base wr W) := Lib.hid (MovedR.of_below HBW.out (hrf.out.grown HBW.out).1 (hrf.out.grown HBW.out).2.1)
        obtain ⟨b, off, v, hao, hc, hKv, hv0, hv1⟩ := HKK.out.2 W (hm.out.trans HMW.out) k hin
        subst hao
        have huk : (v.tmod ((U : Int) + 1) + ((U : Int) + 1)).tmod ((U : Int) + 1) = (((unitK K k x.2.2).toNat : Nat) : Int) := by
          rw [mod_mod]
          unfold unitK
          rw [if_pos (by rw [HKK.out.1]; exact hin), hKv, HU.out, Int.toNat_of_nonneg (Int.emod_nonneg _ (by omega))]
        have HZU : Hid ((unitK K k x.2.2).toNat ≤ U) := Lib.hid (by have := unitK_le K k x.2.2; have := HU.out; omega)
        obtain ⟨z, hz⟩ : ∃ z, z = (unitK K k x.2.2).toNat := ⟨_, rfl⟩
        rw [← hz] at huk HZU
        have HZE := Lib.hid hz
        have hw2 : IntKind.i64.wrap (v.tmod ((U : Int) + 1) + ((U : Int) + 1)) = v.tmod ((U : Int) + 1) + ((U : Int) + 1) := IntWalk.i64_in _ (by
          have h1 := Int.tmod_lt_of_pos v (b := (U : Int) + 1) (by omega)
          have h2 : -((U : Int) + 1) < v.tmod ((U : Int) + 1) := by
            have := Int.tmod_lt_of_pos (-v) (b := (U : Int) + 1) (by omega)
            rw [Int.neg_tmod] at this
            omega
          omega)
        have hn0 : ¬ ((U : Int) + 1 = 0) := by omega
        have hn1 : (((U : Int) + 1) == 0) = false := by simp; omega
        replace HZU : Hid (z ≤ unitsD x.2.2) := Lib.hid (by rw [← HU.out]; exact HZU.out)
        clear hz hv0 hv1 hKv
        obtain ⟨g, cap, sa, sn, sc, al, m, capl, hr, hg, q0, q1, q2, hb, hd, hat⟩ := HW.out.at (k := k) (by rw [hL.out.1]; exact hlt)
        have hrl := hr.lt
        have r0 : W.cell? ⟨r, 0, none⟩ = some (.slice (some ⟨g, 0, none⟩) n cap) := by rw [HN.out]; exact hr.cells.1
        have hcap := hg.2.2.1
        have hcm := hg.2.2.2
        rw [← HN.out] at hcap
        unfold maxLen at hcm
        have hbase : base ≤ W.heap.size := by have := HW.out.1; omega
        rw [← HXE.out] at q0 hb hd hat
        rw [← HNM.out] at q0
        have HS : Hid (∀ w' : World, Below W.heap.size W w' → (w'.cell? ⟨r, 0, none⟩ = some (.slice (some ⟨g, 0, none⟩) n cap) ∧ w'.cell? ⟨g, k * 3, none⟩ = some (.string nm) ∧ w'.cell? ⟨g, k * 3 + 1, none⟩ = some (.slice sa sn sc) ∧ w'.cell? ⟨g, k * 3 + 2, none⟩ = some (.slice al m capl) ∧ w'.frozen? ⟨g, k * 3 + 1, none⟩ = false)) := Lib.hid (fun w' hb' => ⟨(hb'.cell (p := ⟨r, 0, none⟩) hrl).trans r0, (hb'.cell (p := ⟨g, k * 3, none⟩) hg.1).trans q0, (hb'.cell (p := ⟨g, k * 3 + 1, none⟩) hg.1).trans q1, (hb'.cell (p := ⟨g, k * 3 + 2, none⟩) hg.1).trans q2, (hat w' hb').1.1 _⟩)
        have HX := Lib.hid (And.intro hb (And.intro hd (And.intro (HFIT.out.1) (And.intro HFIT.out.2 (And.intro (And.intro hrl hbase) (And.intro trivial (show k < L.length by rw [hL.out.1]; exact hlt)))))))
        have HAT := Lib.hid hat
        have HZK : Hid (z ≤ 4294967296) := Lib.hid (by have := HFIT.out.1.2; have := HZU.out; omega)
        have HNX : Hid (((L.set k (x.1, runD x.2.1 (keepsD z x.2.2), [])).length = n ∧ ∀ j, j < n → (L.set k (x.1, runD x.2.1 (keepsD z x.2.2), [])).getD j f0 = if j < k + 1 then crashAt K j (R.getD j f0) else R.getD j f0) ∧ ∀ w', MovedR r base W w' → MovedR r base w w') := Lib.hid (by
          refine ⟨⟨by rw [List.length_set]; exact hL.out.1, fun j hj => ?_⟩, fun w' h => (hm.out.trans HMW.out).trans h⟩
          by_cases e : j = k
          · subst e
            rw [getD_set_at (by rw [hL.out.1]; exact hlt), if_pos (by omega), ← HXR.out]
            unfold crashAt
            rw [← HZE.out]
          · rw [getD_set_ne e, hL.out.2 j hj]
            by_cases h2 : j < k
            · rw [if_pos h2, if_pos (by omega)]
            · rw [if_neg h2, if_neg (by omega)])
        clear hr hg hb hd hat hrl hbase
        go_wp2_with fail
        refine wp_region_D 25 (S := fun w' => w'.cell? ⟨r, 0, none⟩ = some (.slice (some ⟨g, 0, none⟩) n cap) ∧ w'.cell? ⟨g, k * 3, none⟩ = some (.string nm) ∧ w'.cell? ⟨g, k * 3 + 1, none⟩ = some (.slice sa sn sc) ∧ w'.cell? ⟨g, k * 3 + 2, none⟩ = some (.slice al m capl) ∧ w'.frozen? ⟨g, k * 3 + 1, none⟩ = false) (by kernel_rfl) ?hS0 (fun hHeld => ?_)
        case hS0 => (exact HS.out _ (Below.refl _ _).drew)
        refine anyD_take (i := 0) (v := ?v1) rfl (by kernel_rfl) (by kernel_rfl) (by kernel_rfl) (by kernel_rfl) (fun _ _ _ h => h) (Or.inl ⟨?hw1, ?hy1⟩) (by assumption) ?_
        case hw1 => rfl
        case hy1 => (intro w hSw; (try dsimp only at hSw); go_simp; (first | done | with_reducible rfl))
        try simp only [Act.put, List.setIfInBounds_toArray, List.set_cons_zero, List.set_cons_succ]
        refine anyD_take (i := 1) (v := ?v2) rfl (by kernel_rfl) (by kernel_rfl) (by kernel_rfl) (by kernel_rfl) (fun _ _ _ h => h) (Or.inl ⟨?hw2, ?hy2⟩) (by assumption) ?_
        case hw2 => rfl
        case hy2 => (intro w hSw; (try dsimp only at hSw); go_simp; (first | done | with_reducible rfl))
        try simp only [Act.put, List.setIfInBounds_toArray, List.set_cons_zero, List.set_cons_succ]
        refine anyD_take (i := 2) (v := ?v3) rfl (by kernel_rfl) (by kernel_rfl) (by kernel_rfl) (by kernel_rfl) (fun _ _ _ h => h) (Or.inl ⟨?hw3, ?hy3⟩) (by assumption) ?_
        case hw3 => rfl
        case hy3 => (intro w hSw; (try dsimp only at hSw); go_simp; (first | done | with_reducible rfl))
        try simp only [Act.put, List.setIfInBounds_toArray, List.set_cons_zero, List.set_cons_succ]
        refine anyD_take (i := 3) (v := ?v4) rfl (by kernel_rfl) (by kernel_rfl) (by kernel_rfl) (by kernel_rfl) (fun _ _ _ h => h) (Or.inl ⟨?hw4, ?hy4⟩) (by assumption) ?_
        case hw4 => rfl
        case hy4 => (intro w hSw; (try dsimp only at hSw); go_simp; (first | done | with_reducible rfl))
        try simp only [Act.put, List.setIfInBounds_toArray, List.set_cons_zero, List.set_cons_succ]
        refine anyD_take (i := 4) (v := ?v5) rfl (by kernel_rfl) (by kernel_rfl) (by kernel_rfl) (by kernel_rfl) (fun _ _ _ h => h) (Or.inl ⟨?hw5, ?hy5⟩) (by assumption) ?_
        case hw5 => rfl
        case hy5 => (intro w hSw; (try dsimp only at hSw); go_simp; (first | done | with_reducible rfl))
        try simp only [Act.put, List.setIfInBounds_toArray, List.set_cons_zero, List.set_cons_succ]
        refine anyD_take (i := 5) (v := ?v6) rfl (by kernel_rfl) (by kernel_rfl) (by kernel_rfl) (by kernel_rfl) (fun _ _ _ h => h) (Or.inl ⟨?hw6, ?hy6⟩) (by assumption) ?_
        case hw6 => rfl
        case hy6 => (intro w hSw; (try dsimp only at hSw); go_simp; (first | done | with_reducible rfl))
        try simp only [Act.put, List.setIfInBounds_toArray, List.set_cons_zero, List.set_cons_succ]
        refine anyD_take (i := 6) (v := ?v7) rfl (by kernel_rfl) (by kernel_rfl) (by kernel_rfl) (by kernel_rfl) (fun _ _ _ h => h) (Or.inl ⟨?hw7, ?hy7⟩) (by assumption) ?_
        case hw7 => rfl
        case hy7 => (intro w hSw; (try dsimp only at hSw); go_simp; (first | done | with_reducible rfl))
        try simp only [Act.put, List.setIfInBounds_toArray, List.set_cons_zero, List.set_cons_succ]
        refine anyD_take (i := 7) (v := ?v8) rfl (by kernel_rfl) (by kernel_rfl) (by kernel_rfl) (by kernel_rfl) (fun _ _ _ h => h) (Or.inl ⟨?hw8, ?hy8⟩) (by assumption) ?_
        case hw8 => rfl
        case hy8 => (intro w hSw; (try dsimp only at hSw); go_simp; (first | done | with_reducible rfl))
        try simp only [Act.put, List.setIfInBounds_toArray, List.set_cons_zero, List.set_cons_succ]
        refine anyD_take (i := 8) (v := ?v9) rfl (by kernel_rfl) (by kernel_rfl) (by kernel_rfl) (by kernel_rfl) (fun _ _ _ h => h) (Or.inl ⟨?hw9, ?hy9⟩) (by assumption) ?_
        case hw9 => rfl
        case hy9 => (intro w hSw; (try dsimp only at hSw); go_simp; (first | done | with_reducible rfl))
        try simp only [Act.put, List.setIfInBounds_toArray, List.set_cons_zero, List.set_cons_succ]
        refine anyD_take (i := 9) (v := ?v10) rfl (by kernel_rfl) (by kernel_rfl) (by kernel_rfl) (by kernel_rfl) (fun _ _ _ h => h) (Or.inl ⟨?hw10, ?hy10⟩) (by assumption) ?_
        case hw10 => rfl
        case hy10 => (intro w hSw; (try dsimp only at hSw); go_simp; (first | done | with_reducible rfl))
        try simp only [Act.put, List.setIfInBounds_toArray, List.set_cons_zero, List.set_cons_succ]
        refine anyD_take (i := 10) (v := ?v11) rfl (by kernel_rfl) (by kernel_rfl) (by kernel_rfl) (by kernel_rfl) (fun _ _ _ h => h) (Or.inl ⟨?hw11, ?hy11⟩) (by assumption) ?_
        case hw11 => rfl
        case hy11 => (intro w hSw; (try dsimp only at hSw); go_simp; (first | done | with_reducible rfl))
        try simp only [Act.put, List.setIfInBounds_toArray, List.set_cons_zero, List.set_cons_succ]
        refine anyD_take (i := 11) (v := ?v12) rfl (by kernel_rfl) (by kernel_rfl) (by kernel_rfl) (by kernel_rfl) (fun _ _ _ h => h) (Or.inl ⟨?hw12, ?hy12⟩) (by assumption) ?_
        case hw12 => rfl
        case hy12 => (intro w hSw; (try dsimp only at hSw); go_simp; (first | done | with_reducible rfl))
        try simp only [Act.put, List.setIfInBounds_toArray, List.set_cons_zero, List.set_cons_succ]
        refine anyD_take (i := 12) (v := ?v13) rfl (by kernel_rfl) (by kernel_rfl) (by kernel_rfl) (by kernel_rfl) (fun _ _ _ h => h) (Or.inl ⟨?hw13, ?hy13⟩) (by assumption) ?_
        case hw13 => rfl
        case hy13 => (intro w hSw; (try dsimp only at hSw); go_simp; (first | done | with_reducible rfl))
        try simp only [Act.put, List.setIfInBounds_toArray, List.set_cons_zero, List.set_cons_succ]
        refine anyD_take (i := 13) (v := ?v14) rfl (by kernel_rfl) (by kernel_rfl) (by kernel_rfl) (by kernel_rfl) (fun _ _ _ h => h) (Or.inl ⟨?hw14, ?hy14⟩) (by assumption) ?_
        case hw14 => rfl
        case hy14 => (intro w hSw; (try dsimp only at hSw); go_simp; (first | done | with_reducible rfl))
        try simp only [Act.put, List.setIfInBounds_toArray, List.set_cons_zero, List.set_cons_succ]
        refine anyD_take (i := 14) (v := ?v15) rfl (by kernel_rfl) (by kernel_rfl) (by kernel_rfl) (by kernel_rfl) (fun _ _ _ h => h) (Or.inl ⟨?hw15, ?hy15⟩) (by assumption) ?_
        case hw15 => rfl
        case hy15 => (intro w hSw; (try dsimp only at hSw); go_simp; (first | done | with_reducible rfl))
        try simp only [Act.put, List.setIfInBounds_toArray, List.set_cons_zero, List.set_cons_succ]
        refine anyD_take (i := 15) (v := ?v16) rfl (by kernel_rfl) (by kernel_rfl) (by kernel_rfl) (by kernel_rfl) (fun _ _ _ h => h) (Or.inl ⟨?hw16, ?hy16⟩) (by assumption) ?_
        case hw16 => rfl
        case hy16 => (intro w hSw; (try dsimp only at hSw); go_simp; (first | done | with_reducible rfl))
        try simp only [Act.put, List.setIfInBounds_toArray, List.set_cons_zero, List.set_cons_succ]
        refine anyD_take (i := 16) (v := ?v17) rfl (by kernel_rfl) (by kernel_rfl) (by kernel_rfl) (by kernel_rfl) (fun _ _ _ h => h) (Or.inl ⟨?hw17, ?hy17⟩) (by assumption) ?_
        case hw17 => rfl
        case hy17 => (intro w hSw; (try dsimp only at hSw); go_simp; (first | done | with_reducible rfl))
        try simp only [Act.put, List.setIfInBounds_toArray, List.set_cons_zero, List.set_cons_succ]
        refine anyD_take (i := 17) (v := ?v18) rfl (by kernel_rfl) (by kernel_rfl) (by kernel_rfl) (by kernel_rfl) (fun _ _ _ h => h) (Or.inl ⟨?hw18, ?hy18⟩) (by assumption) ?_
        case hw18 => rfl
        case hy18 => (intro w hSw; (try dsimp only at hSw); go_simp; (first | done | with_reducible rfl))
        try simp only [Act.put, List.setIfInBounds_toArray, List.set_cons_zero, List.set_cons_succ]
        refine anyD_take (i := 18) (v := ?v19) rfl (by kernel_rfl) (by kernel_rfl) (by kernel_rfl) (by kernel_rfl) (fun _ _ _ h => h) (Or.inl ⟨?hw19, ?hy19⟩) (by assumption) ?_
        case hw19 => rfl
        case hy19 => (intro w hSw; (try dsimp only at hSw); go_simp; (first | done | with_reducible rfl))
        try simp only [Act.put, List.setIfInBounds_toArray, List.set_cons_zero, List.set_cons_succ]
        refine anyD_take (i := 19) (v := ?v20) rfl (by kernel_rfl) (by kernel_rfl) (by kernel_rfl) (by kernel_rfl) (fun _ _ _ h => h) (Or.inl ⟨?hw20, ?hy20⟩) (by assumption) ?_
        case hw20 => rfl
        case hy20 => (intro w hSw; (try dsimp only at hSw); go_simp; (first | done | with_reducible rfl))
        try simp only [Act.put, List.setIfInBounds_toArray, List.set_cons_zero, List.set_cons_succ]
        refine anyD_take (i := 20) (v := ?v21) rfl (by kernel_rfl) (by kernel_rfl) (by kernel_rfl) (by kernel_rfl) (fun _ _ _ h => h) (Or.inl ⟨?hw21, ?hy21⟩) (by assumption) ?_
        case hw21 => rfl
        case hy21 => (intro w hSw; (try dsimp only at hSw); go_simp; (first | done | with_reducible rfl))
        try simp only [Act.put, List.setIfInBounds_toArray, List.set_cons_zero, List.set_cons_succ]
        refine anyD_ready (rs := [21]) (by kernel_rfl) (by simp) ?_
        refine AllD.cons (o := _) rfl (fun K hK => ?step22) ?_
        case step22 =>
          go_simp
          refine (keeps_any nm (.slice sa sn sc) al m capl x.2.2 z _ HZK.out HX.out.2.2.2.1 (HX.out.2.1.later (Below.refl _ _).drew)).mono ?_
          rintro e w2 ⟨v2, rfl, hown2, hb2⟩
          have hb21 : Below W.heap.size W w2 := Below.trans (Below.refl _ W).drew hb2
          obtain ⟨av2, cv2, hv2, hd2⟩ := hown2.acts
          obtain ⟨m2, hm2⟩ : ∃ m2, m2 = (keepsD z x.2.2).length := ⟨_, rfl⟩
          rw [← hm2] at hv2 hd2
          have HD2 := Lib.hid hd2
          subst hv2
          clear hown2 hd2 hm2 hb2
          (try dsimp only)
          refine hK.out _ _ ?hS22 (fun hHeld => ?_)
          case hS22 => (intro _; (exact HS.out _ hb21))
          replace hHeld := hHeld (by decide)
          clear hK K
          try simp only [Act.put, List.setIfInBounds_toArray, List.set_cons_zero, List.set_cons_succ]
          refine anyD_ready (rs := [22]) (by kernel_rfl) (by simp) ?_
          refine AllD.cons (o := _) rfl (fun K hK => ?step23) ?_
          case step23 =>
            go_simp
            refine (rbytes_any sa sn sc x.2.1 av2 m2 cv2 (keepsD z x.2.2) _ (HX.out.1.later hb21) HD2.out (fitsD_keeps _ _ _ HX.out.2.2.1.1) (by have := units_keeps x.2.2 z; have := HX.out.2.2.1.2; omega)).mono ?_
            rintro e w3 ⟨v3, rfl, hown3, hb3⟩
            have hb22 : Below W.heap.size W w3 := hb21.trans (hb3.mono hb21.size)
            obtain ⟨av3, cv3, hv3, hbs3, _⟩ := hown3.bytes
            obtain ⟨m3, hm3⟩ : ∃ m3, m3 = (runD x.2.1 (keepsD z x.2.2)).length := ⟨_, rfl⟩
            rw [← hm3] at hv3 hbs3
            have HB3 : Hid (IsBytesZ _ _ _ _ _) := Lib.hid ⟨hbs3, ZS.of_own (by rw [← hv3]; exact hown3) (fun k hk => Nat.lt_of_lt_of_le (HZW.out k hk) hb21.size)⟩
            have q1b : w3.cell? ⟨g, k * 3 + 1, none⟩ = some (.slice sa sn sc) := (HS.out w3 hb22).2.2.1
            have f1b : w3.frozen? ⟨g, k * 3 + 1, none⟩ = false := (HS.out w3 hb22).2.2.2.2
            subst hv3
            clear hown3 hbs3 hm3 hb3
            (try dsimp only)
            refine hK.out _ _ ?hS23 (fun hHeld => ?_)
            case hS23 => (intro _; (exact HS.out _ hb22))
            replace hHeld := hHeld (by decide)
            clear hK K
            try simp only [Act.put, List.setIfInBounds_toArray, List.set_cons_zero, List.set_cons_succ]
            refine anyD_ready (rs := [23]) (by kernel_rfl) (by simp) ?_
            refine AllD.cons (o := _) rfl (fun K hK => ?step24) ?_
            case step24 =>
              go_simp
              refine hK.out _ _ ?hS24 (fun hHeld => ?_)
              case hS24 => (intro _; (exact HS.out _ hb22))
              replace hHeld := hHeld (by decide)
              clear hK K
              try simp only [Act.put, List.setIfInBounds_toArray, List.set_cons_zero, List.set_cons_succ]
              refine anyD_take (i := 24) (v := ?v25) rfl (by kernel_rfl) (by kernel_rfl) (by kernel_rfl) (by kernel_rfl) (fun _ _ _ h => h) (Or.inl ⟨?hw25, ?hy25⟩) (by assumption) ?_
              case hw25 => rfl
              case hy25 => (intro w hSw; (try dsimp only at hSw); go_simp; (first | done | with_reducible rfl))
              try simp only [Act.put, List.setIfInBounds_toArray, List.set_cons_zero, List.set_cons_succ]
              refine anyD_ready (rs := [25]) (by kernel_rfl) (by simp) ?_
              refine AllD.cons (o := _) rfl (fun K hK => ?step26) ?_
              case step26 =>
                go_simp
                refine hK.out _ _ ?hS26 (fun hHeld => ?_)
                case hS26 => exact fun h => absurd rfl h
                clear hK K
                try simp only [Act.put, List.setIfInBounds_toArray, List.set_cons_zero, List.set_cons_succ]
                refine anyD_done (by kernel_rfl) ?_ _
                obtain ⟨hRX, hMX⟩ := (HAT.out w3 hb22).2.2 _ _ _ _ HB3.out
                generalize hX : w3.setCell ⟨g, k * 3 + 1, none⟩ _ = X at hRX hMX ⊢
                clear hX
                obtain ⟨g', cap', _, _, _, _, _, _, hrX, hgX, _, _, q2X, _, _, hATX⟩ := hRX.at (k := k) (by rw [List.length_set]; exact HX.out.2.2.2.2.2.2)
                have hrX' := hrX.cells.1
                have x0 : X.cell? ⟨r, 0, none⟩ = some (.slice (some ⟨g', 0, none⟩) n cap') := by
                  rw [hrX', List.length_set, ← HN.out]
                have zX := (hATX X (Below.refl _ _)).1.1 (k * 3 + 2)
                have HF := Lib.hid ((hATX X (Below.refl _ _)).2.1 none 0 0 [] (IsRActs.nil X))
                have HM := Lib.hid (((MovedR.of_below hb22 HX.out.2.2.2.2.1.1 HX.out.2.2.2.2.1.2).trans hMX).trans HF.out.2)
                have hcap' := hgX.2.2.1
                have hcap2 := hgX.2.2.2
                rw [List.length_set, ← HN.out] at hcap'
                unfold maxLen at hcap2
                clear hRX hMX hrX hgX hATX hrX' hb22 hb21
                go_wp2_with fail
                go_roundw
                case rel =>
                  have hF := HF.out.1
                  rw [List.set_set, getD_set_at HX.out.2.2.2.2.2.2] at hF
                  obtain ⟨e1, e2⟩ := HNX.out
                  exact ⟨k + 1, _, by omega, by go_num, Lib.hid hF, Lib.hid e1, Lib.hid (e2 _ HM.out)⟩
                case measure => simp [intOf]; omega
              exact AllD.nil
            exact AllD.nil
          exact AllD.nil
        exact AllD.nil
      · have hin' : ¬ (k : Int) < (kn : Int) := by omega
        have huk : (unitK K k x.2.2).toNat = 0 := by
          unfold unitK
          rw [if_neg (by rw [HKK.out.1]; exact hin)]
          rfl
        have HUK := Lib.hid huk
        go_wp2_with fail
        refine (HUN.out _ _ _ _ _ _ HD.out).mono ?_
        rintro e W ⟨rfl, hbW⟩
        have HBW := Lib.hid hbW
        clear hbW q0 q1 q2 r0' HD
        have HW : Hid (RefAt W r base L N fz lf out) := Lib.hid (hrf.out.grown HBW.out).2.2
        have HZW : Hid (ZW W) := Lib.hid (HZW0.out.mono (Nat.le_trans hm.out.below.size HBW.out.size))
        have HMW : Hid (MovedR r base wr W) := Lib.hid (MovedR.of_below HBW.out (hrf.out.grown HBW.out).1 (hrf.out.grown HBW.out).2.1)
        have HZU : Hid (0 ≤ unitsD x.2.2) := Lib.hid (Nat.zero_le _)
        obtain ⟨g, cap, sa, sn, sc, al, m, capl, hr, hg, q0, q1, q2, hb, hd, hat⟩ := HW.out.at (k := k) (by rw [hL.out.1]; exact hlt)
        have hrl := hr.lt
        have r0 : W.cell? ⟨r, 0, none⟩ = some (.slice (some ⟨g, 0, none⟩) n cap) := by rw [HN.out]; exact hr.cells.1
        have hcap := hg.2.2.1
        have hcm := hg.2.2.2
        rw [← HN.out] at hcap
        unfold maxLen at hcm
        have hbase : base ≤ W.heap.size := by have := HW.out.1; omega
        rw [← HXE.out] at q0 hb hd hat
        rw [← HNM.out] at q0
        have HS : Hid (∀ w' : World, Below W.heap.size W w' → (w'.cell? ⟨r, 0, none⟩ = some (.slice (some ⟨g, 0, none⟩) n cap) ∧ w'.cell? ⟨g, k * 3, none⟩ = some (.string nm) ∧ w'.cell? ⟨g, k * 3 + 1, none⟩ = some (.slice sa sn sc) ∧ w'.cell? ⟨g, k * 3 + 2, none⟩ = some (.slice al m capl) ∧ w'.frozen? ⟨g, k * 3 + 1, none⟩ = false)) := Lib.hid (fun w' hb' => ⟨(hb'.cell (p := ⟨r, 0, none⟩) hrl).trans r0, (hb'.cell (p := ⟨g, k * 3, none⟩) hg.1).trans q0, (hb'.cell (p := ⟨g, k * 3 + 1, none⟩) hg.1).trans q1, (hb'.cell (p := ⟨g, k * 3 + 2, none⟩) hg.1).trans q2, (hat w' hb').1.1 _⟩)
        have HX := Lib.hid (And.intro hb (And.intro hd (And.intro (HFIT.out.1) (And.intro HFIT.out.2 (And.intro (And.intro hrl hbase) (And.intro trivial (show k < L.length by rw [hL.out.1]; exact hlt)))))))
        have HAT := Lib.hid hat
        have HZK : Hid (0 ≤ 4294967296) := Lib.hid (by have := HFIT.out.1.2; have := HZU.out; omega)
        have HNX : Hid (((L.set k (x.1, runD x.2.1 (keepsD 0 x.2.2), [])).length = n ∧ ∀ j, j < n → (L.set k (x.1, runD x.2.1 (keepsD 0 x.2.2), [])).getD j f0 = if j < k + 1 then crashAt K j (R.getD j f0) else R.getD j f0) ∧ ∀ w', MovedR r base W w' → MovedR r base w w') := Lib.hid (by
          refine ⟨⟨by rw [List.length_set]; exact hL.out.1, fun j hj => ?_⟩, fun w' h => (hm.out.trans HMW.out).trans h⟩
          by_cases e : j = k
          · subst e
            rw [getD_set_at (by rw [hL.out.1]; exact hlt), if_pos (by omega), ← HXR.out]
            unfold crashAt
            rw [HUK.out]
          · rw [getD_set_ne e, hL.out.2 j hj]
            by_cases h2 : j < k
            · rw [if_pos h2, if_pos (by omega)]
            · rw [if_neg h2, if_neg (by omega)])
        clear hr hg hb hd hat hrl hbase
        go_wp2_with fail
        refine wp_region_D 25 (S := fun w' => w'.cell? ⟨r, 0, none⟩ = some (.slice (some ⟨g, 0, none⟩) n cap) ∧ w'.cell? ⟨g, k * 3, none⟩ = some (.string nm) ∧ w'.cell? ⟨g, k * 3 + 1, none⟩ = some (.slice sa sn sc) ∧ w'.cell? ⟨g, k * 3 + 2, none⟩ = some (.slice al m capl) ∧ w'.frozen? ⟨g, k * 3 + 1, none⟩ = false) (by kernel_rfl) ?hS0 (fun hHeld => ?_)
        case hS0 => (exact HS.out _ (Below.refl _ _).drew)
        refine anyD_take (i := 0) (v := ?v501) rfl (by kernel_rfl) (by kernel_rfl) (by kernel_rfl) (by kernel_rfl) (fun _ _ _ h => h) (Or.inl ⟨?hw501, ?hy501⟩) (by assumption) ?_
        case hw501 => rfl
        case hy501 => (intro w hSw; (try dsimp only at hSw); go_simp; (first | done | with_reducible rfl))
        try simp only [Act.put, List.setIfInBounds_toArray, List.set_cons_zero, List.set_cons_succ]
        refine anyD_take (i := 1) (v := ?v502) rfl (by kernel_rfl) (by kernel_rfl) (by kernel_rfl) (by kernel_rfl) (fun _ _ _ h => h) (Or.inl ⟨?hw502, ?hy502⟩) (by assumption) ?_
        case hw502 => rfl
        case hy502 => (intro w hSw; (try dsimp only at hSw); go_simp; (first | done | with_reducible rfl))
        try simp only [Act.put, List.setIfInBounds_toArray, List.set_cons_zero, List.set_cons_succ]
        refine anyD_take (i := 2) (v := ?v503) rfl (by kernel_rfl) (by kernel_rfl) (by kernel_rfl) (by kernel_rfl) (fun _ _ _ h => h) (Or.inl ⟨?hw503, ?hy503⟩) (by assumption) ?_
        case hw503 => rfl
        case hy503 => (intro w hSw; (try dsimp only at hSw); go_simp; (first | done | with_reducible rfl))
        try simp only [Act.put, List.setIfInBounds_toArray, List.set_cons_zero, List.set_cons_succ]
        refine anyD_take (i := 3) (v := ?v504) rfl (by kernel_rfl) (by kernel_rfl) (by kernel_rfl) (by kernel_rfl) (fun _ _ _ h => h) (Or.inl ⟨?hw504, ?hy504⟩) (by assumption) ?_
        case hw504 => rfl
        case hy504 => (intro w hSw; (try dsimp only at hSw); go_simp; (first | done | with_reducible rfl))
        try simp only [Act.put, List.setIfInBounds_toArray, List.set_cons_zero, List.set_cons_succ]
        refine anyD_take (i := 4) (v := ?v505) rfl (by kernel_rfl) (by kernel_rfl) (by kernel_rfl) (by kernel_rfl) (fun _ _ _ h => h) (Or.inl ⟨?hw505, ?hy505⟩) (by assumption) ?_
        case hw505 => rfl
        case hy505 => (intro w hSw; (try dsimp only at hSw); go_simp; (first | done | with_reducible rfl))
        try simp only [Act.put, List.setIfInBounds_toArray, List.set_cons_zero, List.set_cons_succ]
        refine anyD_take (i := 5) (v := ?v506) rfl (by kernel_rfl) (by kernel_rfl) (by kernel_rfl) (by kernel_rfl) (fun _ _ _ h => h) (Or.inl ⟨?hw506, ?hy506⟩) (by assumption) ?_
        case hw506 => rfl
        case hy506 => (intro w hSw; (try dsimp only at hSw); go_simp; (first | done | with_reducible rfl))
        try simp only [Act.put, List.setIfInBounds_toArray, List.set_cons_zero, List.set_cons_succ]
        refine anyD_take (i := 6) (v := ?v507) rfl (by kernel_rfl) (by kernel_rfl) (by kernel_rfl) (by kernel_rfl) (fun _ _ _ h => h) (Or.inl ⟨?hw507, ?hy507⟩) (by assumption) ?_
        case hw507 => rfl
        case hy507 => (intro w hSw; (try dsimp only at hSw); go_simp; (first | done | with_reducible rfl))
        try simp only [Act.put, List.setIfInBounds_toArray, List.set_cons_zero, List.set_cons_succ]
        refine anyD_take (i := 7) (v := ?v508) rfl (by kernel_rfl) (by kernel_rfl) (by kernel_rfl) (by kernel_rfl) (fun _ _ _ h => h) (Or.inl ⟨?hw508, ?hy508⟩) (by assumption) ?_
        case hw508 => rfl
        case hy508 => (intro w hSw; (try dsimp only at hSw); go_simp; (first | done | with_reducible rfl))
        try simp only [Act.put, List.setIfInBounds_toArray, List.set_cons_zero, List.set_cons_succ]
        refine anyD_take (i := 8) (v := ?v509) rfl (by kernel_rfl) (by kernel_rfl) (by kernel_rfl) (by kernel_rfl) (fun _ _ _ h => h) (Or.inl ⟨?hw509, ?hy509⟩) (by assumption) ?_
        case hw509 => rfl
        case hy509 => (intro w hSw; (try dsimp only at hSw); go_simp; (first | done | with_reducible rfl))
        try simp only [Act.put, List.setIfInBounds_toArray, List.set_cons_zero, List.set_cons_succ]
        refine anyD_take (i := 9) (v := ?v510) rfl (by kernel_rfl) (by kernel_rfl) (by kernel_rfl) (by kernel_rfl) (fun _ _ _ h => h) (Or.inl ⟨?hw510, ?hy510⟩) (by assumption) ?_
        case hw510 => rfl
        case hy510 => (intro w hSw; (try dsimp only at hSw); go_simp; (first | done | with_reducible rfl))
        try simp only [Act.put, List.setIfInBounds_toArray, List.set_cons_zero, List.set_cons_succ]
        refine anyD_take (i := 10) (v := ?v511) rfl (by kernel_rfl) (by kernel_rfl) (by kernel_rfl) (by kernel_rfl) (fun _ _ _ h => h) (Or.inl ⟨?hw511, ?hy511⟩) (by assumption) ?_
        case hw511 => rfl
        case hy511 => (intro w hSw; (try dsimp only at hSw); go_simp; (first | done | with_reducible rfl))
        try simp only [Act.put, List.setIfInBounds_toArray, List.set_cons_zero, List.set_cons_succ]
        refine anyD_take (i := 11) (v := ?v512) rfl (by kernel_rfl) (by kernel_rfl) (by kernel_rfl) (by kernel_rfl) (fun _ _ _ h => h) (Or.inl ⟨?hw512, ?hy512⟩) (by assumption) ?_
        case hw512 => rfl
        case hy512 => (intro w hSw; (try dsimp only at hSw); go_simp; (first | done | with_reducible rfl))
        try simp only [Act.put, List.setIfInBounds_toArray, List.set_cons_zero, List.set_cons_succ]
        refine anyD_take (i := 12) (v := ?v513) rfl (by kernel_rfl) (by kernel_rfl) (by kernel_rfl) (by kernel_rfl) (fun _ _ _ h => h) (Or.inl ⟨?hw513, ?hy513⟩) (by assumption) ?_
        case hw513 => rfl
        case hy513 => (intro w hSw; (try dsimp only at hSw); go_simp; (first | done | with_reducible rfl))
        try simp only [Act.put, List.setIfInBounds_toArray, List.set_cons_zero, List.set_cons_succ]
        refine anyD_take (i := 13) (v := ?v514) rfl (by kernel_rfl) (by kernel_rfl) (by kernel_rfl) (by kernel_rfl) (fun _ _ _ h => h) (Or.inl ⟨?hw514, ?hy514⟩) (by assumption) ?_
        case hw514 => rfl
        case hy514 => (intro w hSw; (try dsimp only at hSw); go_simp; (first | done | with_reducible rfl))
        try simp only [Act.put, List.setIfInBounds_toArray, List.set_cons_zero, List.set_cons_succ]
        refine anyD_take (i := 14) (v := ?v515) rfl (by kernel_rfl) (by kernel_rfl) (by kernel_rfl) (by kernel_rfl) (fun _ _ _ h => h) (Or.inl ⟨?hw515, ?hy515⟩) (by assumption) ?_
        case hw515 => rfl
        case hy515 => (intro w hSw; (try dsimp only at hSw); go_simp; (first | done | with_reducible rfl))
        try simp only [Act.put, List.setIfInBounds_toArray, List.set_cons_zero, List.set_cons_succ]
        refine anyD_take (i := 15) (v := ?v516) rfl (by kernel_rfl) (by kernel_rfl) (by kernel_rfl) (by kernel_rfl) (fun _ _ _ h => h) (Or.inl ⟨?hw516, ?hy516⟩) (by assumption) ?_
        case hw516 => rfl
        case hy516 => (intro w hSw; (try dsimp only at hSw); go_simp; (first | done | with_reducible rfl))
        try simp only [Act.put, List.setIfInBounds_toArray, List.set_cons_zero, List.set_cons_succ]
        refine anyD_take (i := 16) (v := ?v517) rfl (by kernel_rfl) (by kernel_rfl) (by kernel_rfl) (by kernel_rfl) (fun _ _ _ h => h) (Or.inl ⟨?hw517, ?hy517⟩) (by assumption) ?_
        case hw517 => rfl
        case hy517 => (intro w hSw; (try dsimp only at hSw); go_simp; (first | done | with_reducible rfl))
        try simp only [Act.put, List.setIfInBounds_toArray, List.set_cons_zero, List.set_cons_succ]
        refine anyD_take (i := 17) (v := ?v518) rfl (by kernel_rfl) (by kernel_rfl) (by kernel_rfl) (by kernel_rfl) (fun _ _ _ h => h) (Or.inl ⟨?hw518, ?hy518⟩) (by assumption) ?_
        case hw518 => rfl
        case hy518 => (intro w hSw; (try dsimp only at hSw); go_simp; (first | done | with_reducible rfl))
        try simp only [Act.put, List.setIfInBounds_toArray, List.set_cons_zero, List.set_cons_succ]
        refine anyD_take (i := 18) (v := ?v519) rfl (by kernel_rfl) (by kernel_rfl) (by kernel_rfl) (by kernel_rfl) (fun _ _ _ h => h) (Or.inl ⟨?hw519, ?hy519⟩) (by assumption) ?_
        case hw519 => rfl
        case hy519 => (intro w hSw; (try dsimp only at hSw); go_simp; (first | done | with_reducible rfl))
        try simp only [Act.put, List.setIfInBounds_toArray, List.set_cons_zero, List.set_cons_succ]
        refine anyD_take (i := 19) (v := ?v520) rfl (by kernel_rfl) (by kernel_rfl) (by kernel_rfl) (by kernel_rfl) (fun _ _ _ h => h) (Or.inl ⟨?hw520, ?hy520⟩) (by assumption) ?_
        case hw520 => rfl
        case hy520 => (intro w hSw; (try dsimp only at hSw); go_simp; (first | done | with_reducible rfl))
        try simp only [Act.put, List.setIfInBounds_toArray, List.set_cons_zero, List.set_cons_succ]
        refine anyD_take (i := 20) (v := ?v521) rfl (by kernel_rfl) (by kernel_rfl) (by kernel_rfl) (by kernel_rfl) (fun _ _ _ h => h) (Or.inl ⟨?hw521, ?hy521⟩) (by assumption) ?_
        case hw521 => rfl
        case hy521 => (intro w hSw; (try dsimp only at hSw); go_simp; (first | done | with_reducible rfl))
        try simp only [Act.put, List.setIfInBounds_toArray, List.set_cons_zero, List.set_cons_succ]
        refine anyD_ready (rs := [21]) (by kernel_rfl) (by simp) ?_
        refine AllD.cons (o := _) rfl (fun K hK => ?step522) ?_
        case step522 =>
          go_simp
          refine (keeps_any nm (.slice sa sn sc) al m capl x.2.2 0 _ HZK.out HX.out.2.2.2.1 (HX.out.2.1.later (Below.refl _ _).drew)).mono ?_
          rintro e w2 ⟨v2, rfl, hown2, hb2⟩
          have hb21 : Below W.heap.size W w2 := Below.trans (Below.refl _ W).drew hb2
          obtain ⟨av2, cv2, hv2, hd2⟩ := hown2.acts
          obtain ⟨m2, hm2⟩ : ∃ m2, m2 = (keepsD 0 x.2.2).length := ⟨_, rfl⟩
          rw [← hm2] at hv2 hd2
          have HD2 := Lib.hid hd2
          subst hv2
          clear hown2 hd2 hm2 hb2
          (try dsimp only)
          refine hK.out _ _ ?hS522 (fun hHeld => ?_)
          case hS522 => (intro _; (exact HS.out _ hb21))
          replace hHeld := hHeld (by decide)
          clear hK K
          try simp only [Act.put, List.setIfInBounds_toArray, List.set_cons_zero, List.set_cons_succ]
          refine anyD_ready (rs := [22]) (by kernel_rfl) (by simp) ?_
          refine AllD.cons (o := _) rfl (fun K hK => ?step523) ?_
          case step523 =>
            go_simp
            refine (rbytes_any sa sn sc x.2.1 av2 m2 cv2 (keepsD 0 x.2.2) _ (HX.out.1.later hb21) HD2.out (fitsD_keeps _ _ _ HX.out.2.2.1.1) (by have := units_keeps x.2.2 0; have := HX.out.2.2.1.2; omega)).mono ?_
            rintro e w3 ⟨v3, rfl, hown3, hb3⟩
            have hb22 : Below W.heap.size W w3 := hb21.trans (hb3.mono hb21.size)
            obtain ⟨av3, cv3, hv3, hbs3, _⟩ := hown3.bytes
            obtain ⟨m3, hm3⟩ : ∃ m3, m3 = (runD x.2.1 (keepsD 0 x.2.2)).length := ⟨_, rfl⟩
            rw [← hm3] at hv3 hbs3
            have HB3 : Hid (IsBytesZ _ _ _ _ _) := Lib.hid ⟨hbs3, ZS.of_own (by rw [← hv3]; exact hown3) (fun k hk => Nat.lt_of_lt_of_le (HZW.out k hk) hb21.size)⟩
            have q1b : w3.cell? ⟨g, k * 3 + 1, none⟩ = some (.slice sa sn sc) := (HS.out w3 hb22).2.2.1
            have f1b : w3.frozen? ⟨g, k * 3 + 1, none⟩ = false := (HS.out w3 hb22).2.2.2.2
            subst hv3
            clear hown3 hbs3 hm3 hb3
            (try dsimp only)
            refine hK.out _ _ ?hS523 (fun hHeld => ?_)
            case hS523 => (intro _; (exact HS.out _ hb22))
            replace hHeld := hHeld (by decide)
            clear hK K
            try simp only [Act.put, List.setIfInBounds_toArray, List.set_cons_zero, List.set_cons_succ]
            refine anyD_ready (rs := [23]) (by kernel_rfl) (by simp) ?_
            refine AllD.cons (o := _) rfl (fun K hK => ?step524) ?_
            case step524 =>
              go_simp
              refine hK.out _ _ ?hS524 (fun hHeld => ?_)
              case hS524 => (intro _; (exact HS.out _ hb22))
              replace hHeld := hHeld (by decide)
              clear hK K
              try simp only [Act.put, List.setIfInBounds_toArray, List.set_cons_zero, List.set_cons_succ]
              refine anyD_take (i := 24) (v := ?v525) rfl (by kernel_rfl) (by kernel_rfl) (by kernel_rfl) (by kernel_rfl) (fun _ _ _ h => h) (Or.inl ⟨?hw525, ?hy525⟩) (by assumption) ?_
              case hw525 => rfl
              case hy525 => (intro w hSw; (try dsimp only at hSw); go_simp; (first | done | with_reducible rfl))
              try simp only [Act.put, List.setIfInBounds_toArray, List.set_cons_zero, List.set_cons_succ]
              refine anyD_ready (rs := [25]) (by kernel_rfl) (by simp) ?_
              refine AllD.cons (o := _) rfl (fun K hK => ?step526) ?_
              case step526 =>
                go_simp
                refine hK.out _ _ ?hS526 (fun hHeld => ?_)
                case hS526 => exact fun h => absurd rfl h
                clear hK K
                try simp only [Act.put, List.setIfInBounds_toArray, List.set_cons_zero, List.set_cons_succ]
                refine anyD_done (by kernel_rfl) ?_ _
                obtain ⟨hRX, hMX⟩ := (HAT.out w3 hb22).2.2 _ _ _ _ HB3.out
                generalize hX : w3.setCell ⟨g, k * 3 + 1, none⟩ _ = X at hRX hMX ⊢
                clear hX
                obtain ⟨g', cap', _, _, _, _, _, _, hrX, hgX, _, _, q2X, _, _, hATX⟩ := hRX.at (k := k) (by rw [List.length_set]; exact HX.out.2.2.2.2.2.2)
                have hrX' := hrX.cells.1
                have x0 : X.cell? ⟨r, 0, none⟩ = some (.slice (some ⟨g', 0, none⟩) n cap') := by
                  rw [hrX', List.length_set, ← HN.out]
                have zX := (hATX X (Below.refl _ _)).1.1 (k * 3 + 2)
                have HF := Lib.hid ((hATX X (Below.refl _ _)).2.1 none 0 0 [] (IsRActs.nil X))
                have HM := Lib.hid (((MovedR.of_below hb22 HX.out.2.2.2.2.1.1 HX.out.2.2.2.2.1.2).trans hMX).trans HF.out.2)
                have hcap' := hgX.2.2.1
                have hcap2 := hgX.2.2.2
                rw [List.length_set, ← HN.out] at hcap'
                unfold maxLen at hcap2
                clear hRX hMX hrX hgX hATX hrX' hb22 hb21
                go_wp2_with fail
                go_roundw
                case rel =>
                  have hF := HF.out.1
                  rw [List.set_set, getD_set_at HX.out.2.2.2.2.2.2] at hF
                  obtain ⟨e1, e2⟩ := HNX.out
                  exact ⟨k + 1, _, by omega, by go_num, Lib.hid hF, Lib.hid e1, Lib.hid (e2 _ HM.out)⟩
                case measure => simp [intOf]; omega
              exact AllD.nil
            exact AllD.nil
          exact AllD.nil
        exact AllD.nil
    · obtain rfl : k = n := by omega
      have hk1 : ¬ (k : Int) < (k : Int) := by omega
      have hR := hrf.out
      obtain ⟨v, hr⟩ := hR.row
      have hr2 := heap_setCell_same wr r 4 _ _ (.bool false) hr
      have hr3 := heap_setCell_same _ r 2 _ _ (.bool false) hr2
      have hr4 := heap_setCell_same _ r 3 _ _ (.int .i64 0) hr3
      have HA := Lib.hid (hR.cell (off := 4) (u := .bool false) (N' := N) (fz' := fz) (lf' := lf) (out' := false) (fun v hr => heap_setCell_same wr r 4 _ _ (.bool false) hr))
      have HB := Lib.hid (HA.out.1.cell (off := 2) (u := .bool false) (N' := N) (fz' := false) (lf' := lf) (out' := false) (fun v hr => heap_setCell_same _ r 2 _ _ (.bool false) hr))
      have HC := Lib.hid (HB.out.1.cell (off := 3) (u := .int .i64 0) (N' := N) (fz' := false) (lf' := 0) (out' := false) (fun v hr => heap_setCell_same _ r 3 _ _ (.int .i64 0) hr))
      have c4 := hr.cells.2.2.2.2
      have c2 := hr.cells.2.2.1
      have c3 := hr.cells.2.2.2.1
      have z4 : wr.frozen? ⟨r, 4, none⟩ = false := frozen_of_row _ _ _ _ _ hr
      have z2 : (wr.setCell ⟨r, 4, none⟩ (.bool false)).frozen? ⟨r, 2, none⟩ = false := frozen_of_row _ _ _ _ _ hr2
      have z3 : ((wr.setCell ⟨r, 4, none⟩ (.bool false)).setCell ⟨r, 2, none⟩ (.bool false)).frozen? ⟨r, 3, none⟩ = false := frozen_of_row _ _ _ _ _ hr3
      have y2 : wr.frozen? ⟨r, 2, none⟩ = false := frozen_of_row _ _ _ _ _ hr
      have y3 : wr.frozen? ⟨r, 3, none⟩ = false := frozen_of_row _ _ _ _ _ hr
      clear hR hr hr2 hr3 hr4
      go_wp2_with fail
      go_ret
      exact ⟨rfl, ⟨L, HC.out.1, by rw [hL.out.1, HN0.out], fun j hj => by rw [hL.out.2 j (by rw [HN0.out]; exact hj), if_pos (by rw [HN0.out]; exact hj)]⟩, ((hm.out.trans HA.out.2).trans HB.out.2).trans HC.out.2⟩
end Go.Proofs.YtjkkfjmloleedaaGreat
