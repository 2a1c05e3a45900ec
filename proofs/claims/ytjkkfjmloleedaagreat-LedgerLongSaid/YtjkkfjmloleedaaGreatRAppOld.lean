/- the reference's disk: Append at a file that is there -/
import Derived.Test.YtjkkfjmloleedaaGreatRName
import Derived.Test.YtjkkfjmloleedaaGreatRCut
set_option linter.unusedSimpArgs false
namespace Go.Proofs.YtjkkfjmloleedaaGreat
open Go.RowKit
set_option linter.unusedSectionVars false
variable [Zone]
theorem OwnB.grown' {w w' : World} {base g : Nat} {l : List UInt8} {n c : Nat} (h : OwnB w base (.slice (some ⟨g, 0, none⟩) n c) l) (he : w'.heap[g]? = w.heap[g]?) : OwnB w' base (.slice (some ⟨g, 0, none⟩) n c) l :=
  ⟨ownsRow_move h.1 (fun j hj => by cases hj; exact he), h.2.move (fun j hj => by cases hj; exact he)⟩
theorem runD_length_le : ∀ (S : List UInt8) (D : List Deed), (runD S D).length ≤ S.length + unitsD D
  | S, [] => by simp [runD]
  | S, .more x :: D => by
    have := runD_length_le (S ++ x) D
    simp only [runD, unitsD, List.map_cons, List.sum_cons, Deed.units, List.length_append] at *
    omega
  | S, .cut z :: D => by
    have := runD_length_le (S.take z) D
    simp only [runD, unitsD, List.map_cons, List.sum_cons, Deed.units, List.length_take] at *
    omega
/-- what an append adds. -/
def addB (B : List UInt8) : List Deed := if B = [] then [] else [.more B]
/-- what Append tells at a file that is there. -/
def RAppR (s : ByteArray) (B : List UInt8) (k r base : Nat) (R : List FileV) (N : Int) (fz : Bool) (lf : Int) (out : Bool) (w : World) (e : Ending) (w' : World) : Prop :=
  (out = true ∧ e = .returned (.int .i64 10) ∧ w' = w) ∨ (out = false ∧ ((nameP s.data.toList = false ∧ e = .returned (.int .i64 2) ∧ w' = w) ∨ (nameP s.data.toList = true ∧
    ((1048576 < (runD (R.getD k f0).2.1 (R.getD k f0).2.2).length + B.length ∧ e = .returned (.int .i64 3) ∧ Below w.heap.size w w') ∨
      ((runD (R.getD k f0).2.1 (R.getD k f0).2.2).length + B.length ≤ 1048576 ∧ RDone r base R (R.set k ((R.getD k f0).1, (R.getD k f0).2.1, (R.getD k f0).2.2 ++ addB B)) N fz lf w e w')))))
set_option maxRecDepth 100000 in
set_option maxHeartbeats 4000000 in
theorem rAppend_old (s : ByteArray) (hss : s.size ≤ 1099511627776) (ba : Option Addr) (bn bc : Nat) (B : List UInt8) (k r base : Nat) (R : List FileV) (N : Int) (fz : Bool) (lf : Int) (out : Bool) (w : World) (hN0 : 0 ≤ N) (hN1 : N ≤ 1000000) (hl0 : 0 ≤ lf) (hl1 : lf ≤ 9223372036854775807) (hzw : ZW w) (h : RefAt w r base R N fz lf out) (hfit : ∀ k, k < R.length → FitF (R.getD k f0) ∧ (R.getD k f0).2.2.length ≤ 1000000)
    (hB : IsBytes w ba bn bc B) (hBK : ∀ w1 w2, Below w.heap.size w w1 → MovedR r base w1 w2 → IsBytes w2 ba bn bc B) (hBn : bn ≤ 17592186044416) (hk : k < R.length) (hks : (R.getD k f0).1 = s) (hkb : ∀ j, j < k → (R.getD j f0).1 ≠ s) :
    Calls Tryz.prog 21 #[.pointer (some ⟨r, 0, none⟩), .string s, .slice ba bn bc] w fun e w' => RAppR s B k r base R N fz lf out w e w' := by
  have HZW0 := Lib.hid hzw
  clear hzw
  have HAt := Lib.hid (At_any s r base R N fz lf out w h)
  obtain ⟨v, hrow⟩ := h.row
  have r4 := hrow.cells.2.2.2.2
  have hrb : r < w.heap.size ∧ base ≤ w.heap.size := ⟨hrow.lt, by have := h.1; have := hrow.lt; omega⟩
  have H := Lib.hid (And.intro h (And.intro hfit hrb))
  have HBL : Hid (B.length = bn) := Lib.hid hB.1
  have HBK := Lib.hid hBK
  have HKK := Lib.hid (And.intro hk (And.intro hks hkb))
  have HNA := Lib.hid (rname_any s w hss)
  clear h hfit hrow hrb hB hBK hk hks hkb hss
  go_enter Tryz.func21, Tryz.ntmps21
  go_wp2_with fail
  refine HAt.out.mono ?_
  rintro e w' ⟨z0, rfl, hz, rfl⟩
  obtain rfl := hz.is HKK.out.1 HKK.out.2.1 HKK.out.2.2
  clear hz
  cases out with
  | true =>
    go_wp2_with fail
    go_ret
    exact .inl ⟨rfl, rfl, rfl⟩
  | false =>
    have hk0 : ¬ (k : Int) < 0 := by omega
    have hk1 : (0 : Int) ≤ (k : Int) := by omega
    obtain ⟨nb, hnb⟩ : ∃ nb, nb = nameP s.data.toList := ⟨_, rfl⟩
    rw [← hnb] at HNA
    have HNB := Lib.hid hnb
    clear hnb
    go_wp2_with fail
    refine HNA.out.mono ?_
    rintro e w' ⟨rfl, rfl⟩
    cases nb with
    | false =>
      go_wp2_with fail
      go_ret
      exact .inr ⟨rfl, .inl ⟨HNB.out.symm, rfl, rfl⟩⟩
    | true =>
      obtain ⟨g, cap, sa, sn, sc, al, m, capl, hr, hg, q0, q1, q2, hb, hd, hat⟩ := H.out.1.at HKK.out.1
      have hu := (H.out.2.1 k HKK.out.1).1
      obtain ⟨n, hn⟩ : ∃ n, n = R.length := ⟨_, rfl⟩
      have r0 : w.cell? ⟨r, 0, none⟩ = some (.slice (some ⟨g, 0, none⟩) n cap) := by rw [hn]; exact hr.cells.1
      have hcap := hg.2.2.1
      have hcm := hg.2.2.2
      rw [← hn] at hcap
      unfold maxLen at hcm
      have hk2 : (k : Int) < (n : Int) := by have := HKK.out.1; omega
      obtain ⟨x, hx⟩ : ∃ x, x = R.getD k f0 := ⟨_, rfl⟩
      rw [← hx] at q0 hb hd hu
      obtain ⟨nm, hnm⟩ : ∃ nm, nm = x.1 := ⟨_, rfl⟩
      rw [← hnm] at q0
      have HB := Lib.hid (And.intro hb (And.intro hd (And.intro hu hx)))
      clear hr hg hb hd hu hat hn hx hnm
      go_wp2_with fail
      refine (Bytes_any nm sa sn sc x.2.1 al m capl x.2.2 _ HB.out.1 HB.out.2.1 HB.out.2.2.1.1 HB.out.2.2.1.2).mono ?_
      rintro e w1 ⟨v1, rfl, hown1, hb1⟩
      obtain ⟨av1, cv1, hv1, hbs1, _⟩ := hown1.bytes
      obtain ⟨L, hL⟩ : ∃ L, L = (runD x.2.1 x.2.2).length := ⟨_, rfl⟩
      rw [← hL] at hv1 hbs1
      have hLm : L ≤ 4611686018427387904 := by
        have := runD_length_le x.2.1 x.2.2
        have := HB.out.2.2.1.2
        omega
      have HL := Lib.hid (show L = (runD (R.getD k f0).2.1 (R.getD k f0).2.2).length by rw [hL, HB.out.2.2.2])
      subst hv1
      have H1 := Lib.hid (And.intro hb1 ((H.out.1.grown hb1).2.2))
      have hw1 : IntKind.i64.wrap ((L : Int) + (bn : Int)) = (L : Int) + (bn : Int) := IntWalk.i64_in _ (by omega)
      clear hown1 hbs1 hb1 hL r0 q0 q1 q2 HB
      by_cases hlz : (1048576 : Int) < (L : Int) + (bn : Int)
      · go_wp2_with fail
        go_ret
        exact .inr ⟨rfl, .inr ⟨HNB.out.symm, .inl ⟨by have := HL.out; have := HBL.out; omega, rfl, H1.out.1⟩⟩⟩
      · have HLZ := Lib.hid hlz
        go_wp2_with fail
        refine (rstep_any r base R N fz lf false w1 hN0 hN1 hl0 hl1 H1.out.2).mono ?_
        rintro e W ⟨hmv, ⟨hq, rfl, hout⟩ | ⟨hq, rfl, hW⟩⟩
        · have HQ := Lib.hid (And.intro ((MovedR.of_below H1.out.1 H.out.2.2.1 H.out.2.2.2).trans hmv) (And.intro hq hout))
          clear hmv hq hout
          go_wp2_with fail
          go_ret
          exact .inr ⟨rfl, .inr ⟨HNB.out.symm, .inr ⟨by have := HL.out; have := HLZ.out; have := HBL.out; omega, HQ.out.1, .inl ⟨HQ.out.2.1, rfl, HQ.out.2.2⟩⟩⟩⟩
        · obtain ⟨g, cap, sa, sn, sc, al, m, capl, hr, hg, q0, q1, q2, hb, hd, hat⟩ := hW.at HKK.out.1
          have hrl := hr.lt
          obtain ⟨n, hn⟩ : ∃ n, n = R.length := ⟨_, rfl⟩
          have hbase : base ≤ W.heap.size := by have := hW.1; omega
          have r0 : W.cell? ⟨r, 0, none⟩ = some (.slice (some ⟨g, 0, none⟩) n cap) := by rw [hn]; exact hr.cells.1
          have hcap := hg.2.2.1
          have hcm := hg.2.2.2
          rw [← hn] at hcap
          unfold maxLen at hcm
          have hk2 : (k : Int) < (n : Int) := by have := HKK.out.1; omega
          obtain ⟨x, hx⟩ : ∃ x, x = R.getD k f0 := ⟨_, rfl⟩
          rw [← hx] at hd hat
          have hcp := hd.len
          have hc1 := hcp.2.1
          have hc2 := hcp.2.2
          unfold maxLen at hc2
          have HM : Hid (x.2.2.length = m ∧ m ≤ 1000000 ∧ bn ≤ 1048576) := Lib.hid ⟨hcp.1, by have := (H.out.2.1 k HKK.out.1).2; rw [← hx] at this; have := hcp.1; omega, by have := HLZ.out; omega⟩
          have HS : Hid (∀ w' : World, Below W.heap.size W w' → (w'.cell? ⟨r, 0, none⟩ = some (.slice (some ⟨g, 0, none⟩) n cap) ∧ w'.cell? ⟨g, k * 3 + 2, none⟩ = some (.slice al m capl) ∧ w'.frozen? ⟨g, k * 3 + 2, none⟩ = false)) := Lib.hid (fun w' hb' => ⟨(hb'.cell (p := ⟨r, 0, none⟩) hrl).trans r0, (hb'.cell (p := ⟨g, k * 3 + 2, none⟩) hg.1).trans q2, (hat w' hb').1.1 _⟩)
          have HZW : Hid (ZW W) := Lib.hid (HZW0.out.mono (Nat.le_trans H1.out.1.size hmv.below.size))
          have hBW : IsBytes W ba bn bc B := HBK.out w1 W H1.out.1 hmv
          have HX := Lib.hid (And.intro hd (And.intro hBW (And.intro hrl hbase)))
          have HAT := Lib.hid hat
          have HK : Hid (∀ (w' : World), RefAt w' r base (R.set k (x.1, x.2.1, x.2.2 ++ addB B)) (N + 1) fz (if fz = true then lf - 1 else lf) false → MovedR r base W w' → RAppR s B k r base R N fz lf false w (.returned (.int .i64 0)) w') := Lib.hid (fun w' hR hM => by
            refine .inr ⟨rfl, .inr ⟨HNB.out.symm, .inr ⟨by have := HL.out; have := HLZ.out; have := HBL.out; omega, ((MovedR.of_below H1.out.1 H.out.2.2.1 H.out.2.2.2).trans hmv).trans hM, .inr ⟨hq, rfl, ?_⟩⟩⟩⟩
            rw [hx] at hR
            exact hR)
          have HW0 : Hid (bn = 0 → RefAt W r base (R.set k (x.1, x.2.1, x.2.2 ++ addB B)) (N + 1) fz (if fz = true then lf - 1 else lf) false) := Lib.hid (fun h0 => by
            have hB0 : B = [] := List.eq_nil_of_length_eq_zero (by rw [HBL.out]; exact h0)
            rw [hB0, addB, if_pos rfl, List.append_nil, hx]
            rw [show R.set k ((R.getD k f0).1, (R.getD k f0).2.1, (R.getD k f0).2.2) = R from set_getD_self R k HKK.out.1]
            exact hW)
          have HAD : Hid (¬ bn = 0 → addB B = [.more B]) := Lib.hid (fun h0 => by
            unfold addB
            rw [if_neg (by rintro rfl; exact h0 HBL.out.symm)])
          clear hr hg hb hd hat hn hrl hbase hW hmv hq hx hcp q0 q1 hBW
          by_cases hb0 : bn = 0
          · have hb1 : ¬ (0 : Int) < (bn : Int) := by omega
            go_wp2_with fail
            go_ret
            exact HK.out _ (HW0.out hb0) (MovedR.refl _ _ _)
          · have hb1 : (0 : Int) < (bn : Int) := by omega
            have HAE := Lib.hid (HAD.out hb0)
            rw [HAE.out] at HK
            clear HAD HW0
            go_wp2_with fail
            refine wp_region_D 23 (S := fun w' => w'.cell? ⟨r, 0, none⟩ = some (.slice (some ⟨g, 0, none⟩) n cap) ∧ w'.cell? ⟨g, k * 3 + 2, none⟩ = some (.slice al m capl) ∧ w'.frozen? ⟨g, k * 3 + 2, none⟩ = false) (by kernel_rfl) ?hS0 (fun hHeld => ?_)
            case hS0 => (exact HS.out _ (Below.refl _ _).drew)
            refine anyD_take (i := 0) (v := ?v1) rfl (by kernel_rfl) (by kernel_rfl) (by kernel_rfl) (by kernel_rfl) (fun _ _ _ h => h) (Or.inl ⟨?hw1, ?hy1⟩) (by assumption) ?_
            case hw1 => rfl
            case hy1 => (intro w hSw; (try dsimp only at hSw); go_simp; (first | done | with_reducible rfl))
            try simp only [Act.put, List.setIfInBounds_toArray, List.set_cons_zero, List.set_cons_succ]
            refine anyD_take (i := 1) (v := ?v2) rfl (by kernel_rfl) (by kernel_rfl) (by kernel_rfl) (by kernel_rfl) (fun _ _ _ h => h) (Or.inl ⟨?hw2, ?hy2⟩) (by assumption) ?_
            case hw2 => rfl
            case hy2 => (intro w hSw; (try dsimp only at hSw); go_simp; (first | done | with_reducible rfl))
            try simp only [Act.put, List.setIfInBounds_toArray, List.set_cons_zero, List.set_cons_succ]
            refine anyD_take (i := 2) (v := ?v3) rfl (by kernel_rfl) (by kernel_rfl) (by kernel_rfl) (by kernel_rfl) (fun _ _ _ h => h) (Or.inl ⟨?hw3, ?hy3⟩) (by assumption) ?_
            case hw3 => rfl
            case hy3 => (intro w hSw; (try dsimp only at hSw); go_simp; (first | done | with_reducible rfl))
            try simp only [Act.put, List.setIfInBounds_toArray, List.set_cons_zero, List.set_cons_succ]
            refine anyD_take (i := 3) (v := ?v4) rfl (by kernel_rfl) (by kernel_rfl) (by kernel_rfl) (by kernel_rfl) (fun _ _ _ h => h) (Or.inl ⟨?hw4, ?hy4⟩) (by assumption) ?_
            case hw4 => rfl
            case hy4 => (intro w hSw; (try dsimp only at hSw); go_simp; (first | done | with_reducible rfl))
            try simp only [Act.put, List.setIfInBounds_toArray, List.set_cons_zero, List.set_cons_succ]
            refine anyD_take (i := 4) (v := ?v5) rfl (by kernel_rfl) (by kernel_rfl) (by kernel_rfl) (by kernel_rfl) (fun _ _ _ h => h) (Or.inl ⟨?hw5, ?hy5⟩) (by assumption) ?_
            case hw5 => rfl
            case hy5 => (intro w hSw; (try dsimp only at hSw); go_simp; (first | done | with_reducible rfl))
            try simp only [Act.put, List.setIfInBounds_toArray, List.set_cons_zero, List.set_cons_succ]
            refine anyD_take (i := 6) (v := ?v6) rfl (by kernel_rfl) (by kernel_rfl) (by kernel_rfl) (by kernel_rfl) (fun _ _ _ h => h) (Or.inl ⟨?hw6, ?hy6⟩) (by assumption) ?_
            case hw6 => rfl
            case hy6 => (intro w hSw; (try dsimp only at hSw); go_simp; (first | done | with_reducible rfl))
            try simp only [Act.put, List.setIfInBounds_toArray, List.set_cons_zero, List.set_cons_succ]
            refine anyD_take (i := 7) (v := ?v7) rfl (by kernel_rfl) (by kernel_rfl) (by kernel_rfl) (by kernel_rfl) (fun _ _ _ h => h) (Or.inl ⟨?hw7, ?hy7⟩) (by assumption) ?_
            case hw7 => rfl
            case hy7 => (intro w hSw; (try dsimp only at hSw); go_simp; (first | done | with_reducible rfl))
            try simp only [Act.put, List.setIfInBounds_toArray, List.set_cons_zero, List.set_cons_succ]
            refine anyD_take (i := 8) (v := ?v8) rfl (by kernel_rfl) (by kernel_rfl) (by kernel_rfl) (by kernel_rfl) (fun _ _ _ h => h) (Or.inl ⟨?hw8, ?hy8⟩) (by assumption) ?_
            case hw8 => rfl
            case hy8 => (intro w hSw; (try dsimp only at hSw); go_simp; (first | done | with_reducible rfl))
            try simp only [Act.put, List.setIfInBounds_toArray, List.set_cons_zero, List.set_cons_succ]
            refine anyD_take (i := 9) (v := ?v9) rfl (by kernel_rfl) (by kernel_rfl) (by kernel_rfl) (by kernel_rfl) (fun _ _ _ h => h) (Or.inl ⟨?hw9, ?hy9⟩) (by assumption) ?_
            case hw9 => rfl
            case hy9 => (intro w hSw; (try dsimp only at hSw); go_simp; (first | done | with_reducible rfl))
            try simp only [Act.put, List.setIfInBounds_toArray, List.set_cons_zero, List.set_cons_succ]
            refine anyD_take (i := 10) (v := ?v10) rfl (by kernel_rfl) (by kernel_rfl) (by kernel_rfl) (by kernel_rfl) (fun _ _ _ h => h) (Or.inl ⟨?hw10, ?hy10⟩) (by assumption) ?_
            case hw10 => rfl
            case hy10 => (intro w hSw; (try dsimp only at hSw); go_simp; (first | done | with_reducible rfl))
            try simp only [Act.put, List.setIfInBounds_toArray, List.set_cons_zero, List.set_cons_succ]
            refine anyD_take (i := 11) (v := ?v11) rfl (by kernel_rfl) (by kernel_rfl) (by kernel_rfl) (by kernel_rfl) (fun _ _ _ h => h) (Or.inl ⟨?hw11, ?hy11⟩) (by assumption) ?_
            case hw11 => rfl
            case hy11 => (intro w hSw; (try dsimp only at hSw); go_simp; (first | done | with_reducible rfl))
            try simp only [Act.put, List.setIfInBounds_toArray, List.set_cons_zero, List.set_cons_succ]
            refine anyD_take (i := 12) (v := ?v12) rfl (by kernel_rfl) (by kernel_rfl) (by kernel_rfl) (by kernel_rfl) (fun _ _ _ h => h) (Or.inl ⟨?hw12, ?hy12⟩) (by assumption) ?_
            case hw12 => rfl
            case hy12 => (intro w hSw; (try dsimp only at hSw); go_simp; (first | done | with_reducible rfl))
            try simp only [Act.put, List.setIfInBounds_toArray, List.set_cons_zero, List.set_cons_succ]
            refine anyD_take (i := 13) (v := ?v13) rfl (by kernel_rfl) (by kernel_rfl) (by kernel_rfl) (by kernel_rfl) (fun _ _ _ h => h) (Or.inl ⟨?hw13, ?hy13⟩) (by assumption) ?_
            case hw13 => rfl
            case hy13 => (intro w hSw; (try dsimp only at hSw); go_simp; (first | done | with_reducible rfl))
            try simp only [Act.put, List.setIfInBounds_toArray, List.set_cons_zero, List.set_cons_succ]
            refine anyD_take (i := 16) (v := ?v14) rfl (by kernel_rfl) (by kernel_rfl) (by kernel_rfl) (by kernel_rfl) (fun _ _ _ h => h) (Or.inl ⟨?hw14, ?hy14⟩) (by assumption) ?_
            case hw14 => rfl
            case hy14 => (intro w hSw; (try dsimp only at hSw); go_simp; (first | done | with_reducible rfl))
            try simp only [Act.put, List.setIfInBounds_toArray, List.set_cons_zero, List.set_cons_succ]
            refine anyD_ready (rs := [5, 15]) (by kernel_rfl) (by simp) ?_
            refine AllD.cons (o := _) rfl (fun K hK => ?step15) ?_
            case step15 =>
              go_simp
              have hb5 : Below W.heap.size W (W.alloc (.cells #[] 97)).drew := ((Below.refl W.heap.size W).alloc (Nat.le_refl _) (.cells #[] 97)).drew
              have o5 : OwnA (W.alloc (.cells #[] 97)).drew W.heap.size (.slice (some ⟨W.heap.size, 0, none⟩) 0 0) [] := (OwnA.none_new W _ (Nat.le_refl _)).later (Below.refl _ _).drew
              generalize (W.alloc (.cells #[] 97)).drew = X5 at hb5 o5 ⊢
              refine hK.out _ _ ?hS15 (fun hHeld => ?_)
              case hS15 => (intro _; (exact HS.out _ hb5))
              replace hHeld := hHeld (by decide)
              clear hK K
              try simp only [Act.put, List.setIfInBounds_toArray, List.set_cons_zero, List.set_cons_succ]
              refine anyD_ready (rs := [14, 15]) (by kernel_rfl) (by simp) ?_
              refine AllD.cons (o := _) rfl (fun K hK => ?step16) ?_
              case step16 =>
                rw [if_pos (by rfl)]
                refine opwp_append_acts _ _ rfl W.heap.size (.slice (some ⟨W.heap.size, 0, none⟩) 0 0) [] rfl o5 al m capl x.2.2 rfl (HX.out.1.later (hb5)) (by have := HM.out; simp; omega) (hb5).size ?_
                intro v14 X14 o14 g14 _
                have hb14 := Below.grownA (hb5) o5 (hb5).size g14
                rw [List.nil_append] at o14
                clear g14
                refine hK.out _ _ ?hS16 (fun hHeld => ?_)
                case hS16 => (intro _; (exact HS.out _ hb14))
                replace hHeld := hHeld (by decide)
                clear hK K
                try simp only [Act.put, List.setIfInBounds_toArray, List.set_cons_zero, List.set_cons_succ]
                refine anyD_ready (rs := [15]) (by kernel_rfl) (by simp) ?_
                refine AllD.cons (o := _) rfl (fun K hK => ?step17) ?_
                case step17 =>
                  go_simp
                  have hb15 : Below W.heap.size W (X14.alloc (.cells #[] 5)) := (hb14).alloc (hb14).size (.cells #[] 5)
                  have o15 : OwnB (X14.alloc (.cells #[] 5)) W.heap.size (.slice (some ⟨X14.heap.size, 0, none⟩) 0 0) [] := OwnB.none_new X14 _ (hb14).size
                  have e15 : (X14.alloc (.cells #[] 5)).heap[X14.heap.size]? = some (.cells #[] 5 (0, 0)) := heap_alloc_new X14 _
                  have p15 := o14.later ((Below.refl _ X14).alloc (Nat.le_refl _) (.cells #[] 5))
                  generalize (X14.alloc (.cells #[] 5)) = X15 at hb15 o15 e15 p15 ⊢
                  refine hK.out _ _ ?hS17 (fun hHeld => ?_)
                  case hS17 => (intro _; (exact HS.out _ hb15))
                  replace hHeld := hHeld (by decide)
                  clear hK K
                  try simp only [Act.put, List.setIfInBounds_toArray, List.set_cons_zero, List.set_cons_succ]
                  refine anyD_ready (rs := [17]) (by kernel_rfl) (by simp) ?_
                  refine AllD.cons (o := _) rfl (fun K hK => ?step18) ?_
                  case step18 =>
                    rw [if_pos (by rfl)]
                    refine opwp_append_bytes _ _ rfl W.heap.size (.slice (some ⟨X14.heap.size, 0, none⟩) 0 0) [] rfl o15 ba bn bc B rfl (HX.out.2.1.later (hb15)) (by have := HM.out; simp; omega) (hb15).size ?_
                    intro v17 X17 o17 g17
                    have hb17 := Below.grownB (hb15) o15 (hb15).size g17
                    have p17 := p15.grownE g17 e15
                    rw [List.nil_append] at o17
                    obtain ⟨av17, cv17, hv17, hbs17, _⟩ := o17.bytes
                    have hz17 : ZS av17 _ := ZS.of_own (by rw [← hv17]; exact o17) HZW.out
                    rw [HBL.out] at hv17 hbs17 hz17
                    subst hv17
                    clear g17 o17
                    have HZ17 := Lib.hid hz17
                    clear hz17
                    refine hK.out _ _ ?hS18 (fun hHeld => ?_)
                    case hS18 => (intro _; (exact HS.out _ hb17))
                    replace hHeld := hHeld (by decide)
                    clear hK K
                    try simp only [Act.put, List.setIfInBounds_toArray, List.set_cons_zero, List.set_cons_succ]
                    refine anyD_take (i := 18) (v := ?v19) rfl (by kernel_rfl) (by kernel_rfl) (by kernel_rfl) (by kernel_rfl) (fun _ _ _ h => h) (Or.inl ⟨?hw19, ?hy19⟩) (by assumption) ?_
                    case hw19 => rfl
                    case hy19 => (intro w hSw; (try dsimp only at hSw); go_simp; (first | done | with_reducible rfl))
                    try simp only [Act.put, List.setIfInBounds_toArray, List.set_cons_zero, List.set_cons_succ]
                    refine anyD_ready (rs := [19]) (by kernel_rfl) (by simp) ?_
                    refine AllD.cons (o := _) rfl (fun K hK => ?step20) ?_
                    case step20 =>
                      go_simp
                      have hb19 : Below W.heap.size W (X17.alloc (.cells #[.bool false, .int .i64 0, .slice av17 bn cv17] 97)) := hb17.alloc hb17.size _
                      have i19 : (X17.alloc (.cells #[.bool false, .int .i64 0, .slice av17 bn cv17] 97)).heap[X17.heap.size]? = some (.cells #[.bool false, .int .i64 0, .slice av17 bn cv17] 97 (0, 0)) := heap_alloc_new X17 _
                      have p19 := p17.later ((Below.refl _ X17).alloc (Nat.le_refl _) (.cells #[.bool false, .int .i64 0, .slice av17 bn cv17] 97))
                      have s19 := hbs17.later ((Below.refl _ X17).alloc (Nat.le_refl _) (.cells #[.bool false, .int .i64 0, .slice av17 bn cv17] 97))
                      generalize X17.alloc (.cells #[.bool false, .int .i64 0, .slice av17 bn cv17] 97) = X19 at hb19 i19 p19 s19 ⊢
                      refine hK.out _ _ ?hS20 (fun hHeld => ?_)
                      case hS20 => (intro _; (exact HS.out _ hb19))
                      replace hHeld := hHeld (by decide)
                      clear hK K
                      try simp only [Act.put, List.setIfInBounds_toArray, List.set_cons_zero, List.set_cons_succ]
                      refine anyD_ready (rs := [20]) (by kernel_rfl) (by simp) ?_
                      refine AllD.cons (o := _) rfl (fun K hK => ?step21) ?_
                      case step21 =>
                        rw [if_pos (by rfl)]
                        refine opwp_append_acts _ _ rfl W.heap.size v14 x.2.2 rfl p19 (some ⟨X17.heap.size, 0, none⟩) 1 1 [.more B] rfl (IsRActs.more_at i19 ⟨s19, HZ17.out⟩) (by have := HM.out; omega) hb19.size ?_
                        intro v20 X20 o20 g20 _
                        have hb20 := Below.grownA hb19 p19 hb19.size g20
                        obtain ⟨a20, c20, hv20, hd20⟩ := o20.acts
                        obtain ⟨m20, hm20⟩ : ∃ m20, m20 = (x.2.2 ++ [Deed.more B]).length := ⟨_, rfl⟩
                        rw [← hm20] at hv20 hd20
                        have HD20 := Lib.hid hd20
                        have q20 : X20.cell? ⟨g, k * 3 + 2, none⟩ = some (.slice al m capl) := (HS.out _ hb20).2.1
                        have f20 : X20.frozen? ⟨g, k * 3 + 2, none⟩ = false := (HS.out _ hb20).2.2
                        subst hv20
                        clear g20 hd20 o20 hm20
                        refine hK.out _ _ ?hS21 (fun hHeld => ?_)
                        case hS21 => (intro _; (exact HS.out _ hb20))
                        replace hHeld := hHeld (by decide)
                        clear hK K
                        try simp only [Act.put, List.setIfInBounds_toArray, List.set_cons_zero, List.set_cons_succ]
                        refine anyD_ready (rs := [21]) (by kernel_rfl) (by simp) ?_
                        refine AllD.cons (o := _) rfl (fun K hK => ?step22) ?_
                        case step22 =>
                          go_simp
                          refine hK.out _ _ ?hS22 (fun hHeld => ?_)
                          case hS22 => (intro _; (exact HS.out _ hb20))
                          replace hHeld := hHeld (by decide)
                          clear hK K
                          try simp only [Act.put, List.setIfInBounds_toArray, List.set_cons_zero, List.set_cons_succ]
                          refine anyD_take (i := 22) (v := ?v23) rfl (by kernel_rfl) (by kernel_rfl) (by kernel_rfl) (by kernel_rfl) (fun _ _ _ h => h) (Or.inl ⟨?hw23, ?hy23⟩) (by assumption) ?_
                          case hw23 => rfl
                          case hy23 => (intro w hSw; (try dsimp only at hSw); go_simp; (first | done | with_reducible rfl))
                          try simp only [Act.put, List.setIfInBounds_toArray, List.set_cons_zero, List.set_cons_succ]
                          refine anyD_ready (rs := [23]) (by kernel_rfl) (by simp) ?_
                          refine AllD.cons (o := _) rfl (fun K hK => ?step24) ?_
                          case step24 =>
                            go_simp
                            refine hK.out _ _ ?hS24 (fun hHeld => ?_)
                            case hS24 => exact fun h => absurd rfl h
                            clear hK K
                            try simp only [Act.put, List.setIfInBounds_toArray, List.set_cons_zero, List.set_cons_succ]
                            refine anyD_done (by kernel_rfl) ?_ _
                            obtain ⟨hR, hMV⟩ := (HAT.out X20 hb20).2.1 _ _ _ _ HD20.out
                            have HE := Lib.hid (HK.out _ hR ((MovedR.of_below hb20 HX.out.2.2.1 HX.out.2.2.2).trans hMV))
                            clear hR hMV
                            go_wp2_with fail
                            go_ret
                            exact HE.out
                          exact AllD.nil
                        exact AllD.nil
                      exact AllD.nil
                    exact AllD.nil
                  exact AllD.nil
                exact AllD.nil
              refine AllD.cons (o := _) rfl (fun K hK => ?step25) ?_
              case step25 =>
                go_simp
                have hb15 : Below W.heap.size W (X5.alloc (.cells #[] 5)) := (hb5).alloc (hb5).size (.cells #[] 5)
                have o15 : OwnB (X5.alloc (.cells #[] 5)) W.heap.size (.slice (some ⟨X5.heap.size, 0, none⟩) 0 0) [] := OwnB.none_new X5 _ (hb5).size
                have e15 : (X5.alloc (.cells #[] 5)).heap[X5.heap.size]? = some (.cells #[] 5 (0, 0)) := heap_alloc_new X5 _
                have p15 := o5.later ((Below.refl _ X5).alloc (Nat.le_refl _) (.cells #[] 5))
                generalize (X5.alloc (.cells #[] 5)) = X15 at hb15 o15 e15 p15 ⊢
                refine hK.out _ _ ?hS25 (fun hHeld => ?_)
                case hS25 => (intro _; (exact HS.out _ hb15))
                replace hHeld := hHeld (by decide)
                clear hK K
                try simp only [Act.put, List.setIfInBounds_toArray, List.set_cons_zero, List.set_cons_succ]
                refine anyD_ready (rs := [14]) (by kernel_rfl) (by simp) ?_
                refine AllD.cons (o := _) rfl (fun K hK => ?step26) ?_
                case step26 =>
                  rw [if_pos (by rfl)]
                  refine opwp_append_acts _ _ rfl W.heap.size (.slice (some ⟨W.heap.size, 0, none⟩) 0 0) [] rfl p15 al m capl x.2.2 rfl (HX.out.1.later (hb15)) (by have := HM.out; simp; omega) (hb15).size ?_
                  intro v14 X14 o14 g14 _
                  have hb14 := Below.grownA (hb15) p15 (hb15).size g14
                  have ne14 : some X5.heap.size ≠ (Value.slice (some ⟨W.heap.size, 0, none⟩) 0 0).ownBlock := by
                    obtain ⟨TT, hTT, _⟩ := p15
                    exact hTT.other e15 (by decide)
                  have e14 := (g14.block X5.heap.size (heap_lt e15) ne14).trans e15
                  have b14 : OwnB X14 W.heap.size (.slice (some ⟨X5.heap.size, 0, none⟩) 0 0) [] := o15.grown' (g14.block X5.heap.size (heap_lt e15) ne14)
                  rw [List.nil_append] at o14
                  clear g14
                  refine hK.out _ _ ?hS26 (fun hHeld => ?_)
                  case hS26 => (intro _; (exact HS.out _ hb14))
                  replace hHeld := hHeld (by decide)
                  clear hK K
                  try simp only [Act.put, List.setIfInBounds_toArray, List.set_cons_zero, List.set_cons_succ]
                  refine anyD_ready (rs := [17]) (by kernel_rfl) (by simp) ?_
                  refine AllD.cons (o := _) rfl (fun K hK => ?step27) ?_
                  case step27 =>
                    rw [if_pos (by rfl)]
                    refine opwp_append_bytes _ _ rfl W.heap.size (.slice (some ⟨X5.heap.size, 0, none⟩) 0 0) [] rfl b14 ba bn bc B rfl (HX.out.2.1.later (hb14)) (by have := HM.out; simp; omega) (hb14).size ?_
                    intro v17 X17 o17 g17
                    have hb17 := Below.grownB (hb14) b14 (hb14).size g17
                    have p17 := o14.grownE g17 e14
                    rw [List.nil_append] at o17
                    obtain ⟨av17, cv17, hv17, hbs17, _⟩ := o17.bytes
                    have hz17 : ZS av17 _ := ZS.of_own (by rw [← hv17]; exact o17) HZW.out
                    rw [HBL.out] at hv17 hbs17 hz17
                    subst hv17
                    clear g17 o17
                    have HZ17 := Lib.hid hz17
                    clear hz17
                    refine hK.out _ _ ?hS27 (fun hHeld => ?_)
                    case hS27 => (intro _; (exact HS.out _ hb17))
                    replace hHeld := hHeld (by decide)
                    clear hK K
                    try simp only [Act.put, List.setIfInBounds_toArray, List.set_cons_zero, List.set_cons_succ]
                    refine anyD_take (i := 18) (v := ?v28) rfl (by kernel_rfl) (by kernel_rfl) (by kernel_rfl) (by kernel_rfl) (fun _ _ _ h => h) (Or.inl ⟨?hw28, ?hy28⟩) (by assumption) ?_
                    case hw28 => rfl
                    case hy28 => (intro w hSw; (try dsimp only at hSw); go_simp; (first | done | with_reducible rfl))
                    try simp only [Act.put, List.setIfInBounds_toArray, List.set_cons_zero, List.set_cons_succ]
                    refine anyD_ready (rs := [19]) (by kernel_rfl) (by simp) ?_
                    refine AllD.cons (o := _) rfl (fun K hK => ?step29) ?_
                    case step29 =>
                      go_simp
                      have hb19 : Below W.heap.size W (X17.alloc (.cells #[.bool false, .int .i64 0, .slice av17 bn cv17] 97)) := hb17.alloc hb17.size _
                      have i19 : (X17.alloc (.cells #[.bool false, .int .i64 0, .slice av17 bn cv17] 97)).heap[X17.heap.size]? = some (.cells #[.bool false, .int .i64 0, .slice av17 bn cv17] 97 (0, 0)) := heap_alloc_new X17 _
                      have p19 := p17.later ((Below.refl _ X17).alloc (Nat.le_refl _) (.cells #[.bool false, .int .i64 0, .slice av17 bn cv17] 97))
                      have s19 := hbs17.later ((Below.refl _ X17).alloc (Nat.le_refl _) (.cells #[.bool false, .int .i64 0, .slice av17 bn cv17] 97))
                      generalize X17.alloc (.cells #[.bool false, .int .i64 0, .slice av17 bn cv17] 97) = X19 at hb19 i19 p19 s19 ⊢
                      refine hK.out _ _ ?hS29 (fun hHeld => ?_)
                      case hS29 => (intro _; (exact HS.out _ hb19))
                      replace hHeld := hHeld (by decide)
                      clear hK K
                      try simp only [Act.put, List.setIfInBounds_toArray, List.set_cons_zero, List.set_cons_succ]
                      refine anyD_ready (rs := [20]) (by kernel_rfl) (by simp) ?_
                      refine AllD.cons (o := _) rfl (fun K hK => ?step30) ?_
                      case step30 =>
                        rw [if_pos (by rfl)]
                        refine opwp_append_acts _ _ rfl W.heap.size v14 x.2.2 rfl p19 (some ⟨X17.heap.size, 0, none⟩) 1 1 [.more B] rfl (IsRActs.more_at i19 ⟨s19, HZ17.out⟩) (by have := HM.out; omega) hb19.size ?_
                        intro v20 X20 o20 g20 _
                        have hb20 := Below.grownA hb19 p19 hb19.size g20
                        obtain ⟨a20, c20, hv20, hd20⟩ := o20.acts
                        obtain ⟨m20, hm20⟩ : ∃ m20, m20 = (x.2.2 ++ [Deed.more B]).length := ⟨_, rfl⟩
                        rw [← hm20] at hv20 hd20
                        have HD20 := Lib.hid hd20
                        have q20 : X20.cell? ⟨g, k * 3 + 2, none⟩ = some (.slice al m capl) := (HS.out _ hb20).2.1
                        have f20 : X20.frozen? ⟨g, k * 3 + 2, none⟩ = false := (HS.out _ hb20).2.2
                        subst hv20
                        clear g20 hd20 o20 hm20
                        refine hK.out _ _ ?hS30 (fun hHeld => ?_)
                        case hS30 => (intro _; (exact HS.out _ hb20))
                        replace hHeld := hHeld (by decide)
                        clear hK K
                        try simp only [Act.put, List.setIfInBounds_toArray, List.set_cons_zero, List.set_cons_succ]
                        refine anyD_ready (rs := [21]) (by kernel_rfl) (by simp) ?_
                        refine AllD.cons (o := _) rfl (fun K hK => ?step31) ?_
                        case step31 =>
                          go_simp
                          refine hK.out _ _ ?hS31 (fun hHeld => ?_)
                          case hS31 => (intro _; (exact HS.out _ hb20))
                          replace hHeld := hHeld (by decide)
                          clear hK K
                          try simp only [Act.put, List.setIfInBounds_toArray, List.set_cons_zero, List.set_cons_succ]
                          refine anyD_take (i := 22) (v := ?v32) rfl (by kernel_rfl) (by kernel_rfl) (by kernel_rfl) (by kernel_rfl) (fun _ _ _ h => h) (Or.inl ⟨?hw32, ?hy32⟩) (by assumption) ?_
                          case hw32 => rfl
                          case hy32 => (intro w hSw; (try dsimp only at hSw); go_simp; (first | done | with_reducible rfl))
                          try simp only [Act.put, List.setIfInBounds_toArray, List.set_cons_zero, List.set_cons_succ]
                          refine anyD_ready (rs := [23]) (by kernel_rfl) (by simp) ?_
                          refine AllD.cons (o := _) rfl (fun K hK => ?step33) ?_
                          case step33 =>
                            go_simp
                            refine hK.out _ _ ?hS33 (fun hHeld => ?_)
                            case hS33 => exact fun h => absurd rfl h
                            clear hK K
                            try simp only [Act.put, List.setIfInBounds_toArray, List.set_cons_zero, List.set_cons_succ]
                            refine anyD_done (by kernel_rfl) ?_ _
                            obtain ⟨hR, hMV⟩ := (HAT.out X20 hb20).2.1 _ _ _ _ HD20.out
                            have HE := Lib.hid (HK.out _ hR ((MovedR.of_below hb20 HX.out.2.2.1 HX.out.2.2.2).trans hMV))
                            clear hR hMV
                            go_wp2_with fail
                            go_ret
                            exact HE.out
                          exact AllD.nil
                        exact AllD.nil
                      exact AllD.nil
                    exact AllD.nil
                  exact AllD.nil
                exact AllD.nil
              exact AllD.nil
            refine AllD.cons (o := _) rfl (fun K hK => ?step34) ?_
            case step34 =>
              go_simp
              have hb15 : Below W.heap.size W (W.alloc (.cells #[] 5)).drew := ((Below.refl W.heap.size W).alloc (Nat.le_refl _) (.cells #[] 5)).drew
              have o15 : OwnB (W.alloc (.cells #[] 5)).drew W.heap.size (.slice (some ⟨W.heap.size, 0, none⟩) 0 0) [] := (OwnB.none_new W _ (Nat.le_refl _)).later (Below.refl _ _).drew
              have e15 : (W.alloc (.cells #[] 5)).drew.heap[W.heap.size]? = some (.cells #[] 5 (0, 0)) := heap_alloc_new W _
              generalize (W.alloc (.cells #[] 5)).drew = X15 at hb15 o15 e15 ⊢
              refine hK.out _ _ ?hS34 (fun hHeld => ?_)
              case hS34 => (intro _; (exact HS.out _ hb15))
              replace hHeld := hHeld (by decide)
              clear hK K
              try simp only [Act.put, List.setIfInBounds_toArray, List.set_cons_zero, List.set_cons_succ]
              refine anyD_ready (rs := [5]) (by kernel_rfl) (by simp) ?_
              refine AllD.cons (o := _) rfl (fun K hK => ?step35) ?_
              case step35 =>
                go_simp
                have hb5 : Below W.heap.size W (X15.alloc (.cells #[] 97)) := (hb15).alloc (hb15).size (.cells #[] 97)
                have o5 : OwnA (X15.alloc (.cells #[] 97)) W.heap.size (.slice (some ⟨X15.heap.size, 0, none⟩) 0 0) [] := OwnA.none_new X15 _ (hb15).size
                have e5 : (X15.alloc (.cells #[] 97)).heap[W.heap.size]? = some (.cells #[] 5 (0, 0)) := (heap_alloc_old' X15 _ (heap_lt e15)).trans e15
                have b5 := o15.later ((Below.refl _ X15).alloc (Nat.le_refl _) (.cells #[] 97))
                generalize (X15.alloc (.cells #[] 97)) = X5 at hb5 o5 e5 b5 ⊢
                refine hK.out _ _ ?hS35 (fun hHeld => ?_)
                case hS35 => (intro _; (exact HS.out _ hb5))
                replace hHeld := hHeld (by decide)
                clear hK K
                try simp only [Act.put, List.setIfInBounds_toArray, List.set_cons_zero, List.set_cons_succ]
                refine anyD_ready (rs := [14]) (by kernel_rfl) (by simp) ?_
                refine AllD.cons (o := _) rfl (fun K hK => ?step36) ?_
                case step36 =>
                  rw [if_pos (by rfl)]
                  refine opwp_append_acts _ _ rfl W.heap.size (.slice (some ⟨X15.heap.size, 0, none⟩) 0 0) [] rfl o5 al m capl x.2.2 rfl (HX.out.1.later (hb5)) (by have := HM.out; simp; omega) (hb5).size ?_
                  intro v14 X14 o14 g14 _
                  have hb14 := Below.grownA (hb5) o5 (hb5).size g14
                  have ne14 : some W.heap.size ≠ (Value.slice (some ⟨X15.heap.size, 0, none⟩) 0 0).ownBlock := by
                    obtain ⟨TT, hTT, _⟩ := o5
                    exact hTT.other e5 (by decide)
                  have e14 := (g14.block W.heap.size (heap_lt e5) ne14).trans e5
                  have b14 : OwnB X14 W.heap.size (.slice (some ⟨W.heap.size, 0, none⟩) 0 0) [] := b5.grown' (g14.block W.heap.size (heap_lt e5) ne14)
                  rw [List.nil_append] at o14
                  clear g14
                  refine hK.out _ _ ?hS36 (fun hHeld => ?_)
                  case hS36 => (intro _; (exact HS.out _ hb14))
                  replace hHeld := hHeld (by decide)
                  clear hK K
                  try simp only [Act.put, List.setIfInBounds_toArray, List.set_cons_zero, List.set_cons_succ]
                  refine anyD_ready (rs := [17]) (by kernel_rfl) (by simp) ?_
                  refine AllD.cons (o := _) rfl (fun K hK => ?step37) ?_
                  case step37 =>
                    rw [if_pos (by rfl)]
                    refine opwp_append_bytes _ _ rfl W.heap.size (.slice (some ⟨W.heap.size, 0, none⟩) 0 0) [] rfl b14 ba bn bc B rfl (HX.out.2.1.later (hb14)) (by have := HM.out; simp; omega) (hb14).size ?_
                    intro v17 X17 o17 g17
                    have hb17 := Below.grownB (hb14) b14 (hb14).size g17
                    have p17 := o14.grownE g17 e14
                    rw [List.nil_append] at o17
                    obtain ⟨av17, cv17, hv17, hbs17, _⟩ := o17.bytes
                    have hz17 : ZS av17 _ := ZS.of_own (by rw [← hv17]; exact o17) HZW.out
                    rw [HBL.out] at hv17 hbs17 hz17
                    subst hv17
                    clear g17 o17
                    have HZ17 := Lib.hid hz17
                    clear hz17
                    refine hK.out _ _ ?hS37 (fun hHeld => ?_)
                    case hS37 => (intro _; (exact HS.out _ hb17))
                    replace hHeld := hHeld (by decide)
                    clear hK K
                    try simp only [Act.put, List.setIfInBounds_toArray, List.set_cons_zero, List.set_cons_succ]
                    refine anyD_take (i := 18) (v := ?v38) rfl (by kernel_rfl) (by kernel_rfl) (by kernel_rfl) (by kernel_rfl) (fun _ _ _ h => h) (Or.inl ⟨?hw38, ?hy38⟩) (by assumption) ?_
                    case hw38 => rfl
                    case hy38 => (intro w hSw; (try dsimp only at hSw); go_simp; (first | done | with_reducible rfl))
                    try simp only [Act.put, List.setIfInBounds_toArray, List.set_cons_zero, List.set_cons_succ]
                    refine anyD_ready (rs := [19]) (by kernel_rfl) (by simp) ?_
                    refine AllD.cons (o := _) rfl (fun K hK => ?step39) ?_
                    case step39 =>
                      go_simp
                      have hb19 : Below W.heap.size W (X17.alloc (.cells #[.bool false, .int .i64 0, .slice av17 bn cv17] 97)) := hb17.alloc hb17.size _
                      have i19 : (X17.alloc (.cells #[.bool false, .int .i64 0, .slice av17 bn cv17] 97)).heap[X17.heap.size]? = some (.cells #[.bool false, .int .i64 0, .slice av17 bn cv17] 97 (0, 0)) := heap_alloc_new X17 _
                      have p19 := p17.later ((Below.refl _ X17).alloc (Nat.le_refl _) (.cells #[.bool false, .int .i64 0, .slice av17 bn cv17] 97))
                      have s19 := hbs17.later ((Below.refl _ X17).alloc (Nat.le_refl _) (.cells #[.bool false, .int .i64 0, .slice av17 bn cv17] 97))
                      generalize X17.alloc (.cells #[.bool false, .int .i64 0, .slice av17 bn cv17] 97) = X19 at hb19 i19 p19 s19 ⊢
                      refine hK.out _ _ ?hS39 (fun hHeld => ?_)
                      case hS39 => (intro _; (exact HS.out _ hb19))
                      replace hHeld := hHeld (by decide)
                      clear hK K
                      try simp only [Act.put, List.setIfInBounds_toArray, List.set_cons_zero, List.set_cons_succ]
                      refine anyD_ready (rs := [20]) (by kernel_rfl) (by simp) ?_
                      refine AllD.cons (o := _) rfl (fun K hK => ?step40) ?_
                      case step40 =>
                        rw [if_pos (by rfl)]
                        refine opwp_append_acts _ _ rfl W.heap.size v14 x.2.2 rfl p19 (some ⟨X17.heap.size, 0, none⟩) 1 1 [.more B] rfl (IsRActs.more_at i19 ⟨s19, HZ17.out⟩) (by have := HM.out; omega) hb19.size ?_
                        intro v20 X20 o20 g20 _
                        have hb20 := Below.grownA hb19 p19 hb19.size g20
                        obtain ⟨a20, c20, hv20, hd20⟩ := o20.acts
                        obtain ⟨m20, hm20⟩ : ∃ m20, m20 = (x.2.2 ++ [Deed.more B]).length := ⟨_, rfl⟩
                        rw [← hm20] at hv20 hd20
                        have HD20 := Lib.hid hd20
                        have q20 : X20.cell? ⟨g, k * 3 + 2, none⟩ = some (.slice al m capl) := (HS.out _ hb20).2.1
                        have f20 : X20.frozen? ⟨g, k * 3 + 2, none⟩ = false := (HS.out _ hb20).2.2
                        subst hv20
                        clear g20 hd20 o20 hm20
                        refine hK.out _ _ ?hS40 (fun hHeld => ?_)
                        case hS40 => (intro _; (exact HS.out _ hb20))
                        replace hHeld := hHeld (by decide)
                        clear hK K
                        try simp only [Act.put, List.setIfInBounds_toArray, List.set_cons_zero, List.set_cons_succ]
                        refine anyD_ready (rs := [21]) (by kernel_rfl) (by simp) ?_
                        refine AllD.cons (o := _) rfl (fun K hK => ?step41) ?_
                        case step41 =>
                          go_simp
                          refine hK.out _ _ ?hS41 (fun hHeld => ?_)
                          case hS41 => (intro _; (exact HS.out _ hb20))
                          replace hHeld := hHeld (by decide)
                          clear hK K
                          try simp only [Act.put, List.setIfInBounds_toArray, List.set_cons_zero, List.set_cons_succ]
                          refine anyD_take (i := 22) (v := ?v42) rfl (by kernel_rfl) (by kernel_rfl) (by kernel_rfl) (by kernel_rfl) (fun _ _ _ h => h) (Or.inl ⟨?hw42, ?hy42⟩) (by assumption) ?_
                          case hw42 => rfl
                          case hy42 => (intro w hSw; (try dsimp only at hSw); go_simp; (first | done | with_reducible rfl))
                          try simp only [Act.put, List.setIfInBounds_toArray, List.set_cons_zero, List.set_cons_succ]
                          refine anyD_ready (rs := [23]) (by kernel_rfl) (by simp) ?_
                          refine AllD.cons (o := _) rfl (fun K hK => ?step43) ?_
                          case step43 =>
                            go_simp
                            refine hK.out _ _ ?hS43 (fun hHeld => ?_)
                            case hS43 => exact fun h => absurd rfl h
                            clear hK K
                            try simp only [Act.put, List.setIfInBounds_toArray, List.set_cons_zero, List.set_cons_succ]
                            refine anyD_done (by kernel_rfl) ?_ _
                            obtain ⟨hR, hMV⟩ := (HAT.out X20 hb20).2.1 _ _ _ _ HD20.out
                            have HE := Lib.hid (HK.out _ hR ((MovedR.of_below hb20 HX.out.2.2.1 HX.out.2.2.2).trans hMV))
                            clear hR hMV
                            go_wp2_with fail
                            go_ret
                            exact HE.out
                          exact AllD.nil
                        exact AllD.nil
                      exact AllD.nil
                    exact AllD.nil
                  exact AllD.nil
                exact AllD.nil
              exact AllD.nil
            exact AllD.nil
end Go.Proofs.YtjkkfjmloleedaaGreat
