/- the reference's disk: Cut -/
import Derived.Test.YtjkkfjmloleedaaGreatRApp
set_option linter.unusedSimpArgs false
namespace Go.Proofs.YtjkkfjmloleedaaGreat
open Go.RowKit
set_option linter.unusedSectionVars false
variable [Zone]
/-- what Cut tells. -/
def RCutR (s : ByteArray) (sz : Int) (r base : Nat) (R : List FileV) (N : Int) (fz : Bool) (lf : Int) (out : Bool) (w : World) (e : Ending) (w' : World) : Prop :=
  (out = true ∧ e = .returned (.int .i64 10) ∧ w' = w) ∨ (out = false ∧ ∃ z, AtR s R z ∧ ((z < 0 ∧ e = .returned (.int .i64 6) ∧ w' = w) ∨
    (0 ≤ z ∧ (((sz < 0 ∨ ((runD (R.getD z.toNat f0).2.1 (R.getD z.toNat f0).2.2).length : Int) < sz) ∧ e = .returned (.int .i64 2) ∧ Below w.heap.size w w') ∨
      ((0 ≤ sz ∧ sz ≤ ((runD (R.getD z.toNat f0).2.1 (R.getD z.toNat f0).2.2).length : Int)) ∧ RDone r base R (R.set z.toNat ((R.getD z.toNat f0).1, (R.getD z.toNat f0).2.1, (R.getD z.toNat f0).2.2 ++ [.cut sz.toNat])) N fz lf w e w')))))
theorem heap_alloc_old' (w : World) (o : Obj) {j : Nat} (h : j < w.heap.size) : (w.alloc o).heap[j]? = w.heap[j]? := ((Below.refl w.heap.size w).alloc (Nat.le_refl _) o).block j h
set_option maxRecDepth 100000 in
set_option maxHeartbeats 4000000 in
theorem rCut_any (s : ByteArray) (sz : Int) (r base : Nat) (R : List FileV) (N : Int) (fz : Bool) (lf : Int) (out : Bool) (w : World) (hN0 : 0 ≤ N) (hN1 : N ≤ 1000000) (hl0 : 0 ≤ lf) (hl1 : lf ≤ 9223372036854775807) (h : RefAt w r base R N fz lf out) (hfit : ∀ k, k < R.length → FitF (R.getD k f0) ∧ (R.getD k f0).2.2.length ≤ 1000000) :
    Calls Tryz.prog 23 #[.pointer (some ⟨r, 0, none⟩), .string s, .int .i64 sz] w fun e w' => RCutR s sz r base R N fz lf out w e w' := by
  have HAt := Lib.hid (At_any s r base R N fz lf out w h)
  obtain ⟨v, hrow⟩ := h.row
  have r4 := hrow.cells.2.2.2.2
  have hrb : r < w.heap.size ∧ base ≤ w.heap.size := ⟨hrow.lt, by have := h.1; have := hrow.lt; omega⟩
  have H := Lib.hid (And.intro h (And.intro hfit hrb))
  clear h hfit hrow hrb
  go_enter Tryz.func23, Tryz.ntmps23
  go_wp2_with fail
  refine HAt.out.mono ?_
  rintro e w' ⟨z0, rfl, hz, rfl⟩
  have HZ := Lib.hid hz
  cases out with
  | true =>
    go_wp2_with fail
    go_ret
    exact .inl ⟨rfl, rfl, rfl⟩
  | false =>
    rcases hz with ⟨k, rfl, hk, _, _⟩ | ⟨rfl, _⟩
    · have hk0 : ¬ (k : Int) < 0 := by omega
      have hk1 : (0 : Int) ≤ (k : Int) := by omega
      have HKK := Lib.hid hk
      by_cases hsz : sz < 0
      · clear hk
        go_wp2_with fail
        go_ret
        exact .inr ⟨rfl, _, HZ.out, .inr ⟨hk1, .inl ⟨.inl hsz, rfl, Below.refl _ _⟩⟩⟩
      · obtain ⟨z, rfl⟩ := Int.eq_ofNat_of_zero_le (show 0 ≤ sz by omega)
        obtain ⟨g, cap, sa, sn, sc, al, m, capl, hr, hg, q0, q1, q2, hb, hd, hat⟩ := H.out.1.at hk
        have hu := (H.out.2.1 k hk).1
        obtain ⟨n, hn⟩ : ∃ n, n = R.length := ⟨_, rfl⟩
        have r0 : w.cell? ⟨r, 0, none⟩ = some (.slice (some ⟨g, 0, none⟩) n cap) := by rw [hn]; exact hr.cells.1
        have hcap := hg.2.2.1
        have hcm := hg.2.2.2
        rw [← hn] at hcap
        unfold maxLen at hcm
        have hk2 : (k : Int) < (n : Int) := by omega
        obtain ⟨x, hx⟩ : ∃ x, x = R.getD k f0 := ⟨_, rfl⟩
        rw [← hx] at q0 hb hd hu
        obtain ⟨nm, hnm⟩ : ∃ nm, nm = x.1 := ⟨_, rfl⟩
        rw [← hnm] at q0
        have HB := Lib.hid (And.intro hb (And.intro hd (And.intro hu hx)))
        clear hr hg hb hd hu hat hn hx hnm hk hcap hcm
        have hz00 : ¬ ((z : Int) < 0) := hsz
        have hcap := HB.out.1
        clear hcap
        go_wp2_with fail
        refine (Bytes_any nm sa sn sc x.2.1 al m capl x.2.2 _ HB.out.1 HB.out.2.1 HB.out.2.2.1.1 HB.out.2.2.1.2).mono ?_
        rintro e w1 ⟨v1, rfl, hown1, hb1⟩
        obtain ⟨av1, cv1, hv1, hbs1, _⟩ := hown1.bytes
        obtain ⟨L, hL⟩ : ∃ L, L = (runD x.2.1 x.2.2).length := ⟨_, rfl⟩
        rw [← hL] at hv1
        have HL := Lib.hid (show L = (runD (R.getD k f0).2.1 (R.getD k f0).2.2).length by rw [hL, HB.out.2.2.2])
        subst hv1
        have H1 := Lib.hid (And.intro hb1 ((H.out.1.grown hb1).2.2))
        clear hown1 hbs1 hb1 hL r0 q0 q1 q2 HB
        by_cases hlz : (L : Int) < (z : Int)
        · go_wp2_with fail
          go_ret
          exact .inr ⟨rfl, _, HZ.out, .inr ⟨hk1, .inl ⟨.inr (by have := HL.out; rw [Int.toNat_natCast]; omega), rfl, H1.out.1⟩⟩⟩
        · have HLZ := Lib.hid hlz
          go_wp2_with fail
          refine (rstep_any r base R N fz lf false w1 hN0 hN1 hl0 hl1 H1.out.2).mono ?_
          rintro e W ⟨hmv, ⟨hq, rfl, hout⟩ | ⟨hq, rfl, hW⟩⟩
          · have HQ := Lib.hid (And.intro ((MovedR.of_below H1.out.1 H.out.2.2.1 H.out.2.2.2).trans hmv) (And.intro hq hout))
            clear hmv hq hout
            go_wp2_with fail
            go_ret
            exact .inr ⟨rfl, _, HZ.out, .inr ⟨hk1, .inr ⟨⟨by omega, by have := HL.out; have := HLZ.out; rw [Int.toNat_natCast]; omega⟩, HQ.out.1, .inl ⟨HQ.out.2.1, rfl, HQ.out.2.2⟩⟩⟩⟩
          · obtain ⟨g, cap, sa, sn, sc, al, m, capl, hr, hg, q0, q1, q2, hb, hd, hat⟩ := hW.at HKK.out
            have hrl := hr.lt
            obtain ⟨n, hn⟩ : ∃ n, n = R.length := ⟨_, rfl⟩
            have hbase : base ≤ W.heap.size := by have := hW.1; omega
            have r0 : W.cell? ⟨r, 0, none⟩ = some (.slice (some ⟨g, 0, none⟩) n cap) := by rw [hn]; exact hr.cells.1
            have hcap := hg.2.2.1
            have hcm := hg.2.2.2
            rw [← hn] at hcap
            unfold maxLen at hcm
            have hk2 : (k : Int) < (n : Int) := by have := HKK.out; omega
            obtain ⟨x, hx⟩ : ∃ x, x = R.getD k f0 := ⟨_, rfl⟩
            rw [← hx] at hd hat
            have hcp := hd.len
            have hc1 := hcp.2.1
            have hc2 := hcp.2.2
            unfold maxLen at hc2
            have HM : Hid (x.2.2.length = m ∧ m ≤ 1000000) := Lib.hid ⟨hcp.1, by have := (H.out.2.1 k HKK.out).2; rw [← hx] at this; have := hcp.1; omega⟩
            have HS : Hid (∀ w' : World, Below W.heap.size W w' → (w'.cell? ⟨r, 0, none⟩ = some (.slice (some ⟨g, 0, none⟩) n cap) ∧ w'.frozen? ⟨g, k * 3 + 2, none⟩ = false) ∧ ∀ u, ((w'.setCell ⟨g, k * 3 + 2, none⟩ u).cell? ⟨r, 0, none⟩ = some (.slice (some ⟨g, 0, none⟩) n cap) ∧ (w'.setCell ⟨g, k * 3 + 2, none⟩ u).frozen? ⟨g, k * 3 + 2, none⟩ = false)) := Lib.hid (fun w' hb' => by
              have c0 := (hb'.cell (p := ⟨r, 0, none⟩) hrl).trans r0
              refine ⟨⟨c0, (hat w' hb').1.1 _⟩, fun u => ⟨?_, (hat w' hb').1.2 _ _ _⟩⟩
              rw [World.cell?_of_block (w := w') (a := ⟨r, 0, none⟩) (Below.heap_setCell _ _ _ _ (Ne.symm hg.2.1))]
              exact c0)
            have HX := Lib.hid (And.intro hd (And.intro trivial (And.intro hg.1 (And.intro hrl hbase))))
            have HAT := Lib.hid hat
            have HK : Hid (∀ (w' : World), RefAt w' r base (R.set k (x.1, x.2.1, x.2.2 ++ [.cut z])) (N + 1) fz (if fz = true then lf - 1 else lf) false → MovedR r base W w' → RCutR s (z : Int) r base R N fz lf false w (.returned (.int .i64 0)) w') := Lib.hid (fun w' hR hM => by
              refine .inr ⟨rfl, _, HZ.out, .inr ⟨hk1, .inr ⟨⟨by omega, by have := HL.out; have := HLZ.out; rw [Int.toNat_natCast]; omega⟩, ((MovedR.of_below H1.out.1 H.out.2.2.1 H.out.2.2.2).trans hmv).trans hM, .inr ⟨hq, rfl, ?_⟩⟩⟩⟩
              rw [hx] at hR
              exact hR)
            clear hr hg hb hd hat hn hrl hbase hW hmv hq hx hcp q0 q1
            go_wp2_with fail
            refine wp_region_held_drew (S := fun w' => w'.cell? ⟨r, 0, none⟩ = some (.slice (some ⟨g, 0, none⟩) n cap) ∧ w'.frozen? ⟨g, k * 3 + 2, none⟩ = false) (by kernel_rfl) ?hS0 (fun hHeld => ?_)
            case hS0 => (exact (HS.out _ (Below.refl _ _).drew).1)
            refine wpAnyH_take (i := 0) (v := ?v1) rfl (by kernel_rfl) (by kernel_rfl) (by kernel_rfl) (fun _ _ _ h => h) (Or.inl ⟨?hw1, ?hy1⟩) (by assumption) ?_
            case hw1 => rfl
            case hy1 => (intro w hSw; (try dsimp only at hSw); go_simp; (first | done | with_reducible rfl))
            try simp only [Act.put, List.setIfInBounds_toArray, List.set_cons_zero, List.set_cons_succ]
            refine wpAnyH_take (i := 1) (v := ?v2) rfl (by kernel_rfl) (by kernel_rfl) (by kernel_rfl) (fun _ _ _ h => h) (Or.inl ⟨?hw2, ?hy2⟩) (by assumption) ?_
            case hw2 => rfl
            case hy2 => (intro w hSw; (try dsimp only at hSw); go_simp; (first | done | with_reducible rfl))
            try simp only [Act.put, List.setIfInBounds_toArray, List.set_cons_zero, List.set_cons_succ]
            refine wpAnyH_take (i := 2) (v := ?v3) rfl (by kernel_rfl) (by kernel_rfl) (by kernel_rfl) (fun _ _ _ h => h) (Or.inl ⟨?hw3, ?hy3⟩) (by assumption) ?_
            case hw3 => rfl
            case hy3 => (intro w hSw; (try dsimp only at hSw); go_simp; (first | done | with_reducible rfl))
            try simp only [Act.put, List.setIfInBounds_toArray, List.set_cons_zero, List.set_cons_succ]
            refine wpAnyH_take (i := 3) (v := ?v4) rfl (by kernel_rfl) (by kernel_rfl) (by kernel_rfl) (fun _ _ _ h => h) (Or.inl ⟨?hw4, ?hy4⟩) (by assumption) ?_
            case hw4 => rfl
            case hy4 => (intro w hSw; (try dsimp only at hSw); go_simp; (first | done | with_reducible rfl))
            try simp only [Act.put, List.setIfInBounds_toArray, List.set_cons_zero, List.set_cons_succ]
            refine wpAnyH_take (i := 4) (v := ?v5) rfl (by kernel_rfl) (by kernel_rfl) (by kernel_rfl) (fun _ _ _ h => h) (Or.inl ⟨?hw5, ?hy5⟩) (by assumption) ?_
            case hw5 => rfl
            case hy5 => (intro w hSw; (try dsimp only at hSw); go_simp; (first | done | with_reducible rfl))
            try simp only [Act.put, List.setIfInBounds_toArray, List.set_cons_zero, List.set_cons_succ]
            refine wpAnyH_take (i := 6) (v := ?v6) rfl (by kernel_rfl) (by kernel_rfl) (by kernel_rfl) (fun _ _ _ h => h) (Or.inl ⟨?hw6, ?hy6⟩) (by assumption) ?_
            case hw6 => rfl
            case hy6 => (intro w hSw; (try dsimp only at hSw); go_simp; (first | done | with_reducible rfl))
            try simp only [Act.put, List.setIfInBounds_toArray, List.set_cons_zero, List.set_cons_succ]
            refine wpAnyH_take (i := 7) (v := ?v7) rfl (by kernel_rfl) (by kernel_rfl) (by kernel_rfl) (fun _ _ _ h => h) (Or.inl ⟨?hw7, ?hy7⟩) (by assumption) ?_
            case hw7 => rfl
            case hy7 => (intro w hSw; (try dsimp only at hSw); go_simp; (first | done | with_reducible rfl))
            try simp only [Act.put, List.setIfInBounds_toArray, List.set_cons_zero, List.set_cons_succ]
            refine wpAnyH_take (i := 8) (v := ?v8) rfl (by kernel_rfl) (by kernel_rfl) (by kernel_rfl) (fun _ _ _ h => h) (Or.inl ⟨?hw8, ?hy8⟩) (by assumption) ?_
            case hw8 => rfl
            case hy8 => (intro w hSw; (try dsimp only at hSw); go_simp; (first | done | with_reducible rfl))
            try simp only [Act.put, List.setIfInBounds_toArray, List.set_cons_zero, List.set_cons_succ]
            refine wpAnyH_take (i := 9) (v := ?v9) rfl (by kernel_rfl) (by kernel_rfl) (by kernel_rfl) (fun _ _ _ h => h) (Or.inl ⟨?hw9, ?hy9⟩) (by assumption) ?_
            case hw9 => rfl
            case hy9 => (intro w hSw; (try dsimp only at hSw); go_simp; (first | done | with_reducible rfl))
            try simp only [Act.put, List.setIfInBounds_toArray, List.set_cons_zero, List.set_cons_succ]
            refine wpAnyH_take (i := 10) (v := ?v10) rfl (by kernel_rfl) (by kernel_rfl) (by kernel_rfl) (fun _ _ _ h => h) (Or.inl ⟨?hw10, ?hy10⟩) (by assumption) ?_
            case hw10 => rfl
            case hy10 => (intro w hSw; (try dsimp only at hSw); go_simp; (first | done | with_reducible rfl))
            try simp only [Act.put, List.setIfInBounds_toArray, List.set_cons_zero, List.set_cons_succ]
            refine wpAnyH_take (i := 11) (v := ?v11) rfl (by kernel_rfl) (by kernel_rfl) (by kernel_rfl) (fun _ _ _ h => h) (Or.inl ⟨?hw11, ?hy11⟩) (by assumption) ?_
            case hw11 => rfl
            case hy11 => (intro w hSw; (try dsimp only at hSw); go_simp; (first | done | with_reducible rfl))
            try simp only [Act.put, List.setIfInBounds_toArray, List.set_cons_zero, List.set_cons_succ]
            refine wpAnyH_take (i := 12) (v := ?v12) rfl (by kernel_rfl) (by kernel_rfl) (by kernel_rfl) (fun _ _ _ h => h) (Or.inl ⟨?hw12, ?hy12⟩) (by assumption) ?_
            case hw12 => rfl
            case hy12 => (intro w hSw; (try dsimp only at hSw); go_simp; (first | done | with_reducible rfl))
            try simp only [Act.put, List.setIfInBounds_toArray, List.set_cons_zero, List.set_cons_succ]
            refine wpAnyH_take (i := 15) (v := ?v13) rfl (by kernel_rfl) (by kernel_rfl) (by kernel_rfl) (fun _ _ _ h => h) (Or.inl ⟨?hw13, ?hy13⟩) (by assumption) ?_
            case hw13 => rfl
            case hy13 => (intro w hSw; (try dsimp only at hSw); go_simp; (first | done | with_reducible rfl))
            try simp only [Act.put, List.setIfInBounds_toArray, List.set_cons_zero, List.set_cons_succ]
            refine wpAnyH_take (i := 16) (v := ?v14) rfl (by kernel_rfl) (by kernel_rfl) (by kernel_rfl) (fun _ _ _ h => h) (Or.inl ⟨?hw14, ?hy14⟩) (by assumption) ?_
            case hw14 => rfl
            case hy14 => (intro w hSw; (try dsimp only at hSw); go_simp; (first | done | with_reducible rfl))
            try simp only [Act.put, List.setIfInBounds_toArray, List.set_cons_zero, List.set_cons_succ]
            refine wpAnyH_ready (rs := [5, 13, 17]) (by kernel_rfl) (by simp) ?_
            refine AllReadyH.cons (o := _) rfl (fun K hK => ?step15) ?_
            case step15 =>
              go_simp
              have hb5 : Below W.heap.size W (W.alloc (.cells #[] 97)).drew := ((Below.refl W.heap.size W).alloc (Nat.le_refl _) (.cells #[] 97)).drew
              have o5 : OwnA (W.alloc (.cells #[] 97)).drew W.heap.size (.slice (some ⟨W.heap.size, 0, none⟩) 0 0) [] := (OwnA.none_new W _ (Nat.le_refl _)).later (Below.refl _ _).drew
              generalize (W.alloc (.cells #[] 97)).drew = X5 at hb5 o5 ⊢
              have q5 : X5.cell? ⟨g, k * 3 + 2, none⟩ = some (.slice al m capl) := (hb5.cell (p := ⟨g, k * 3 + 2, none⟩) HX.out.2.2.1).trans q2
              refine hK.out _ _ ?hS15 (fun hHeld => ?_)
              case hS15 => (exact (HS.out _ hb5).1)
              clear hK K
              try simp only [Act.put, List.setIfInBounds_toArray, List.set_cons_zero, List.set_cons_succ]
              refine wpAnyH_ready (rs := [13, 17]) (by kernel_rfl) (by simp) ?_
              refine AllReadyH.cons (o := _) rfl (fun K hK => ?step16) ?_
              case step16 =>
                go_simp
                refine hK.out _ _ ?hS16 (fun hHeld => ?_)
                case hS16 => (exact (HS.out _ (hb5)).1)
                clear hK K
                try simp only [Act.put, List.setIfInBounds_toArray, List.set_cons_zero, List.set_cons_succ]
                refine wpAnyH_ready (rs := [14, 17]) (by kernel_rfl) (by simp) ?_
                refine AllReadyH.cons (o := _) rfl (fun K hK => ?step17) ?_
                case step17 =>
                  rw [if_pos (by rfl)]
                  refine opwp_append_acts _ _ rfl W.heap.size (.slice (some ⟨W.heap.size, 0, none⟩) 0 0) [] rfl o5 al m capl x.2.2 rfl (HX.out.1.later (hb5)) (by have := HM.out; simp; omega) (hb5).size ?_
                  intro v14 X14 o14 g14 _
                  have hb14 := Below.grownA (hb5) o5 (hb5).size g14
                  rw [List.nil_append] at o14
                  clear g14
                  refine hK.out _ _ ?hS17 (fun hHeld => ?_)
                  case hS17 => (exact (HS.out _ hb14).1)
                  clear hK K
                  try simp only [Act.put, List.setIfInBounds_toArray, List.set_cons_zero, List.set_cons_succ]
                  refine wpAnyH_ready (rs := [17]) (by kernel_rfl) (by simp) ?_
                  refine AllReadyH.cons (o := _) rfl (fun K hK => ?step18) ?_
                  case step18 =>
                    go_simp
                    have hb17 : Below W.heap.size W (X14.alloc (.cells #[.bool true, .int .i64 (z : Int), .slice none 0 0] 97)) := (hb14).alloc (hb14).size (.cells #[.bool true, .int .i64 (z : Int), .slice none 0 0] 97)
                    have i17 : (X14.alloc (.cells #[.bool true, .int .i64 (z : Int), .slice none 0 0] 97)).heap[X14.heap.size]? = some (.cells #[.bool true, .int .i64 (z : Int), .slice none 0 0] 97 (0, 0)) := heap_alloc_new X14 _
                    have o17 := o14.later ((Below.refl _ X14).alloc (Nat.le_refl _) (.cells #[.bool true, .int .i64 (z : Int), .slice none 0 0] 97))
                    generalize (X14.alloc (.cells #[.bool true, .int .i64 (z : Int), .slice none 0 0] 97)) = X17 at hb17 i17 o17 ⊢
                    have q17 : X17.cell? ⟨g, k * 3 + 2, none⟩ = some (.slice al m capl) := (hb17.cell (p := ⟨g, k * 3 + 2, none⟩) HX.out.2.2.1).trans q2
                    refine hK.out _ _ ?hS18 (fun hHeld => ?_)
                    case hS18 => (exact (HS.out _ hb17).1)
                    clear hK K
                    try simp only [Act.put, List.setIfInBounds_toArray, List.set_cons_zero, List.set_cons_succ]
                    refine wpAnyH_ready (rs := [18]) (by kernel_rfl) (by simp) ?_
                    refine AllReadyH.cons (o := _) rfl (fun K hK => ?step19) ?_
                    case step19 =>
                      rw [if_pos (by rfl)]
                      refine opwp_append_acts _ _ rfl W.heap.size v14 x.2.2 rfl o17 (some ⟨X14.heap.size, 0, none⟩) 1 1 [.cut z] rfl (IsRActs.cut_at i17) (by have := HM.out; omega) (hb17).size ?_
                      intro v18 X18 o18 g18 _
                      have hb18 := Below.grownA (hb17) o17 (hb17).size g18
                      obtain ⟨a18, c18, hv18, hd18⟩ := o18.acts
                      obtain ⟨m18, hm18⟩ : ∃ m18, m18 = (x.2.2 ++ [Deed.cut z]).length := ⟨_, rfl⟩
                      rw [← hm18] at hv18 hd18
                      have HD18 := Lib.hid hd18
                      have q18 : X18.cell? ⟨g, k * 3 + 2, none⟩ = some (.slice al m capl) := (hb18.cell (p := ⟨g, k * 3 + 2, none⟩) HX.out.2.2.1).trans q2
                      subst hv18
                      clear g18 hd18 o18 hm18
                      refine hK.out _ _ ?hS19 (fun hHeld => ?_)
                      case hS19 => (exact (HS.out _ hb18).1)
                      clear hK K
                      try simp only [Act.put, List.setIfInBounds_toArray, List.set_cons_zero, List.set_cons_succ]
                      refine wpAnyH_take (i := 19) (v := ?v20) rfl (by kernel_rfl) (by kernel_rfl) (by kernel_rfl) (fun _ _ _ h => h) (Or.inl ⟨?hw20, ?hy20⟩) (by assumption) ?_
                      case hw20 => rfl
                      case hy20 => (intro w hSw; (try dsimp only at hSw); go_simp; (first | done | with_reducible rfl))
                      try simp only [Act.put, List.setIfInBounds_toArray, List.set_cons_zero, List.set_cons_succ]
                      refine wpAnyH_take (i := 20) (v := ?v21) rfl (by kernel_rfl) (by kernel_rfl) (by kernel_rfl) (fun _ _ _ h => h) (Or.inl ⟨?hw21, ?hy21⟩) (by assumption) ?_
                      case hw21 => rfl
                      case hy21 => (intro w hSw; (try dsimp only at hSw); go_simp; (first | done | with_reducible rfl))
                      try simp only [Act.put, List.setIfInBounds_toArray, List.set_cons_zero, List.set_cons_succ]
                      refine wpAnyH_ready (rs := [21]) (by kernel_rfl) (by simp) ?_
                      refine AllReadyH.cons (o := _) rfl (fun K hK => ?step22) ?_
                      case step22 =>
                        go_simp
                        refine hK.out _ _ ?hS22 (fun hHeld => ?_)
                        case hS22 => (exact (HS.out _ hb18).2 _)
                        clear hK K
                        try simp only [Act.put, List.setIfInBounds_toArray, List.set_cons_zero, List.set_cons_succ]
                        refine wpAnyH_done (by kernel_rfl) ?_ _
                        obtain ⟨hR, hMV⟩ := (HAT.out X18 hb18).2.1 _ _ _ _ HD18.out
                        have HE := Lib.hid (HK.out _ hR ((MovedR.of_below hb18 HX.out.2.2.2.1 HX.out.2.2.2.2).trans hMV))
                        clear hR hMV
                        go_wp2_with fail
                        go_ret
                        exact HE.out
                      exact AllReadyH.nil
                    exact AllReadyH.nil
                  exact AllReadyH.nil
                refine AllReadyH.cons (o := _) rfl (fun K hK => ?step23) ?_
                case step23 =>
                  go_simp
                  have hb17 : Below W.heap.size W (X5.alloc (.cells #[.bool true, .int .i64 (z : Int), .slice none 0 0] 97)) := (hb5).alloc (hb5).size (.cells #[.bool true, .int .i64 (z : Int), .slice none 0 0] 97)
                  have i17 : (X5.alloc (.cells #[.bool true, .int .i64 (z : Int), .slice none 0 0] 97)).heap[X5.heap.size]? = some (.cells #[.bool true, .int .i64 (z : Int), .slice none 0 0] 97 (0, 0)) := heap_alloc_new X5 _
                  have o17 := o5.later ((Below.refl _ X5).alloc (Nat.le_refl _) (.cells #[.bool true, .int .i64 (z : Int), .slice none 0 0] 97))
                  generalize (X5.alloc (.cells #[.bool true, .int .i64 (z : Int), .slice none 0 0] 97)) = X17 at hb17 i17 o17 ⊢
                  have q17 : X17.cell? ⟨g, k * 3 + 2, none⟩ = some (.slice al m capl) := (hb17.cell (p := ⟨g, k * 3 + 2, none⟩) HX.out.2.2.1).trans q2
                  refine hK.out _ _ ?hS23 (fun hHeld => ?_)
                  case hS23 => (exact (HS.out _ hb17).1)
                  clear hK K
                  try simp only [Act.put, List.setIfInBounds_toArray, List.set_cons_zero, List.set_cons_succ]
                  refine wpAnyH_ready (rs := [14]) (by kernel_rfl) (by simp) ?_
                  refine AllReadyH.cons (o := _) rfl (fun K hK => ?step24) ?_
                  case step24 =>
                    rw [if_pos (by rfl)]
                    refine opwp_append_acts _ _ rfl W.heap.size (.slice (some ⟨W.heap.size, 0, none⟩) 0 0) [] rfl o17 al m capl x.2.2 rfl (HX.out.1.later (hb17)) (by have := HM.out; simp; omega) (hb17).size ?_
                    intro v14 X14 o14 g14 _
                    have hb14 := Below.grownA (hb17) o17 (hb17).size g14
                    have i14 := (g14.block X5.heap.size (heap_lt i17) (fun e => by have h5 : W.heap.size < X5.heap.size := (o5.lt rfl).2; injection e with e; (try dsimp only at e); omega)).trans i17
                    rw [List.nil_append] at o14
                    clear g14
                    refine hK.out _ _ ?hS24 (fun hHeld => ?_)
                    case hS24 => (exact (HS.out _ hb14).1)
                    clear hK K
                    try simp only [Act.put, List.setIfInBounds_toArray, List.set_cons_zero, List.set_cons_succ]
                    refine wpAnyH_ready (rs := [18]) (by kernel_rfl) (by simp) ?_
                    refine AllReadyH.cons (o := _) rfl (fun K hK => ?step25) ?_
                    case step25 =>
                      rw [if_pos (by rfl)]
                      refine opwp_append_acts _ _ rfl W.heap.size v14 x.2.2 rfl o14 (some ⟨X5.heap.size, 0, none⟩) 1 1 [.cut z] rfl (IsRActs.cut_at i14) (by have := HM.out; omega) (hb14).size ?_
                      intro v18 X18 o18 g18 _
                      have hb18 := Below.grownA (hb14) o14 (hb14).size g18
                      obtain ⟨a18, c18, hv18, hd18⟩ := o18.acts
                      obtain ⟨m18, hm18⟩ : ∃ m18, m18 = (x.2.2 ++ [Deed.cut z]).length := ⟨_, rfl⟩
                      rw [← hm18] at hv18 hd18
                      have HD18 := Lib.hid hd18
                      have q18 : X18.cell? ⟨g, k * 3 + 2, none⟩ = some (.slice al m capl) := (hb18.cell (p := ⟨g, k * 3 + 2, none⟩) HX.out.2.2.1).trans q2
                      subst hv18
                      clear g18 hd18 o18 hm18
                      refine hK.out _ _ ?hS25 (fun hHeld => ?_)
                      case hS25 => (exact (HS.out _ hb18).1)
                      clear hK K
                      try simp only [Act.put, List.setIfInBounds_toArray, List.set_cons_zero, List.set_cons_succ]
                      refine wpAnyH_take (i := 19) (v := ?v26) rfl (by kernel_rfl) (by kernel_rfl) (by kernel_rfl) (fun _ _ _ h => h) (Or.inl ⟨?hw26, ?hy26⟩) (by assumption) ?_
                      case hw26 => rfl
                      case hy26 => (intro w hSw; (try dsimp only at hSw); go_simp; (first | done | with_reducible rfl))
                      try simp only [Act.put, List.setIfInBounds_toArray, List.set_cons_zero, List.set_cons_succ]
                      refine wpAnyH_take (i := 20) (v := ?v27) rfl (by kernel_rfl) (by kernel_rfl) (by kernel_rfl) (fun _ _ _ h => h) (Or.inl ⟨?hw27, ?hy27⟩) (by assumption) ?_
                      case hw27 => rfl
                      case hy27 => (intro w hSw; (try dsimp only at hSw); go_simp; (first | done | with_reducible rfl))
                      try simp only [Act.put, List.setIfInBounds_toArray, List.set_cons_zero, List.set_cons_succ]
                      refine wpAnyH_ready (rs := [21]) (by kernel_rfl) (by simp) ?_
                      refine AllReadyH.cons (o := _) rfl (fun K hK => ?step28) ?_
                      case step28 =>
                        go_simp
                        refine hK.out _ _ ?hS28 (fun hHeld => ?_)
                        case hS28 => (exact (HS.out _ hb18).2 _)
                        clear hK K
                        try simp only [Act.put, List.setIfInBounds_toArray, List.set_cons_zero, List.set_cons_succ]
                        refine wpAnyH_done (by kernel_rfl) ?_ _
                        obtain ⟨hR, hMV⟩ := (HAT.out X18 hb18).2.1 _ _ _ _ HD18.out
                        have HE := Lib.hid (HK.out _ hR ((MovedR.of_below hb18 HX.out.2.2.2.1 HX.out.2.2.2.2).trans hMV))
                        clear hR hMV
                        go_wp2_with fail
                        go_ret
                        exact HE.out
                      exact AllReadyH.nil
                    exact AllReadyH.nil
                  exact AllReadyH.nil
                exact AllReadyH.nil
              refine AllReadyH.cons (o := _) rfl (fun K hK => ?step29) ?_
              case step29 =>
                go_simp
                have hb17 : Below W.heap.size W (X5.alloc (.cells #[.bool true, .int .i64 (z : Int), .slice none 0 0] 97)) := (hb5).alloc (hb5).size (.cells #[.bool true, .int .i64 (z : Int), .slice none 0 0] 97)
                have i17 : (X5.alloc (.cells #[.bool true, .int .i64 (z : Int), .slice none 0 0] 97)).heap[X5.heap.size]? = some (.cells #[.bool true, .int .i64 (z : Int), .slice none 0 0] 97 (0, 0)) := heap_alloc_new X5 _
                have o17 := o5.later ((Below.refl _ X5).alloc (Nat.le_refl _) (.cells #[.bool true, .int .i64 (z : Int), .slice none 0 0] 97))
                generalize (X5.alloc (.cells #[.bool true, .int .i64 (z : Int), .slice none 0 0] 97)) = X17 at hb17 i17 o17 ⊢
                have q17 : X17.cell? ⟨g, k * 3 + 2, none⟩ = some (.slice al m capl) := (hb17.cell (p := ⟨g, k * 3 + 2, none⟩) HX.out.2.2.1).trans q2
                refine hK.out _ _ ?hS29 (fun hHeld => ?_)
                case hS29 => (exact (HS.out _ hb17).1)
                clear hK K
                try simp only [Act.put, List.setIfInBounds_toArray, List.set_cons_zero, List.set_cons_succ]
                refine wpAnyH_ready (rs := [13]) (by kernel_rfl) (by simp) ?_
                refine AllReadyH.cons (o := _) rfl (fun K hK => ?step30) ?_
                case step30 =>
                  go_simp
                  refine hK.out _ _ ?hS30 (fun hHeld => ?_)
                  case hS30 => (exact (HS.out _ (hb17)).1)
                  clear hK K
                  try simp only [Act.put, List.setIfInBounds_toArray, List.set_cons_zero, List.set_cons_succ]
                  refine wpAnyH_ready (rs := [14]) (by kernel_rfl) (by simp) ?_
                  refine AllReadyH.cons (o := _) rfl (fun K hK => ?step31) ?_
                  case step31 =>
                    rw [if_pos (by rfl)]
                    refine opwp_append_acts _ _ rfl W.heap.size (.slice (some ⟨W.heap.size, 0, none⟩) 0 0) [] rfl o17 al m capl x.2.2 rfl (HX.out.1.later (hb17)) (by have := HM.out; simp; omega) (hb17).size ?_
                    intro v14 X14 o14 g14 _
                    have hb14 := Below.grownA (hb17) o17 (hb17).size g14
                    have i14 := (g14.block X5.heap.size (heap_lt i17) (fun e => by have h5 : W.heap.size < X5.heap.size := (o5.lt rfl).2; injection e with e; (try dsimp only at e); omega)).trans i17
                    rw [List.nil_append] at o14
                    clear g14
                    refine hK.out _ _ ?hS31 (fun hHeld => ?_)
                    case hS31 => (exact (HS.out _ hb14).1)
                    clear hK K
                    try simp only [Act.put, List.setIfInBounds_toArray, List.set_cons_zero, List.set_cons_succ]
                    refine wpAnyH_ready (rs := [18]) (by kernel_rfl) (by simp) ?_
                    refine AllReadyH.cons (o := _) rfl (fun K hK => ?step32) ?_
                    case step32 =>
                      rw [if_pos (by rfl)]
                      refine opwp_append_acts _ _ rfl W.heap.size v14 x.2.2 rfl o14 (some ⟨X5.heap.size, 0, none⟩) 1 1 [.cut z] rfl (IsRActs.cut_at i14) (by have := HM.out; omega) (hb14).size ?_
                      intro v18 X18 o18 g18 _
                      have hb18 := Below.grownA (hb14) o14 (hb14).size g18
                      obtain ⟨a18, c18, hv18, hd18⟩ := o18.acts
                      obtain ⟨m18, hm18⟩ : ∃ m18, m18 = (x.2.2 ++ [Deed.cut z]).length := ⟨_, rfl⟩
                      rw [← hm18] at hv18 hd18
                      have HD18 := Lib.hid hd18
                      have q18 : X18.cell? ⟨g, k * 3 + 2, none⟩ = some (.slice al m capl) := (hb18.cell (p := ⟨g, k * 3 + 2, none⟩) HX.out.2.2.1).trans q2
                      subst hv18
                      clear g18 hd18 o18 hm18
                      refine hK.out _ _ ?hS32 (fun hHeld => ?_)
                      case hS32 => (exact (HS.out _ hb18).1)
                      clear hK K
                      try simp only [Act.put, List.setIfInBounds_toArray, List.set_cons_zero, List.set_cons_succ]
                      refine wpAnyH_take (i := 19) (v := ?v33) rfl (by kernel_rfl) (by kernel_rfl) (by kernel_rfl) (fun _ _ _ h => h) (Or.inl ⟨?hw33, ?hy33⟩) (by assumption) ?_
                      case hw33 => rfl
                      case hy33 => (intro w hSw; (try dsimp only at hSw); go_simp; (first | done | with_reducible rfl))
                      try simp only [Act.put, List.setIfInBounds_toArray, List.set_cons_zero, List.set_cons_succ]
                      refine wpAnyH_take (i := 20) (v := ?v34) rfl (by kernel_rfl) (by kernel_rfl) (by kernel_rfl) (fun _ _ _ h => h) (Or.inl ⟨?hw34, ?hy34⟩) (by assumption) ?_
                      case hw34 => rfl
                      case hy34 => (intro w hSw; (try dsimp only at hSw); go_simp; (first | done | with_reducible rfl))
                      try simp only [Act.put, List.setIfInBounds_toArray, List.set_cons_zero, List.set_cons_succ]
                      refine wpAnyH_ready (rs := [21]) (by kernel_rfl) (by simp) ?_
                      refine AllReadyH.cons (o := _) rfl (fun K hK => ?step35) ?_
                      case step35 =>
                        go_simp
                        refine hK.out _ _ ?hS35 (fun hHeld => ?_)
                        case hS35 => (exact (HS.out _ hb18).2 _)
                        clear hK K
                        try simp only [Act.put, List.setIfInBounds_toArray, List.set_cons_zero, List.set_cons_succ]
                        refine wpAnyH_done (by kernel_rfl) ?_ _
                        obtain ⟨hR, hMV⟩ := (HAT.out X18 hb18).2.1 _ _ _ _ HD18.out
                        have HE := Lib.hid (HK.out _ hR ((MovedR.of_below hb18 HX.out.2.2.2.1 HX.out.2.2.2.2).trans hMV))
                        clear hR hMV
                        go_wp2_with fail
                        go_ret
                        exact HE.out
                      exact AllReadyH.nil
                    exact AllReadyH.nil
                  exact AllReadyH.nil
                exact AllReadyH.nil
              exact AllReadyH.nil
            refine AllReadyH.cons (o := _) rfl (fun K hK => ?step36) ?_
            case step36 =>
              go_simp
              refine hK.out _ _ ?hS36 (fun hHeld => ?_)
              case hS36 => (exact (HS.out _ ((Below.refl W.heap.size W).drew)).1)
              clear hK K
              try simp only [Act.put, List.setIfInBounds_toArray, List.set_cons_zero, List.set_cons_succ]
              refine wpAnyH_ready (rs := [5, 17]) (by kernel_rfl) (by simp) ?_
              refine AllReadyH.cons (o := _) rfl (fun K hK => ?step37) ?_
              case step37 =>
                go_simp
                have hb5 : Below W.heap.size W (W.alloc (.cells #[] 97)).drew := ((Below.refl W.heap.size W).alloc (Nat.le_refl _) (.cells #[] 97)).drew
                have o5 : OwnA (W.alloc (.cells #[] 97)).drew W.heap.size (.slice (some ⟨W.heap.size, 0, none⟩) 0 0) [] := (OwnA.none_new W _ (Nat.le_refl _)).later (Below.refl _ _).drew
                generalize (W.alloc (.cells #[] 97)).drew = X5 at hb5 o5 ⊢
                have q5 : X5.cell? ⟨g, k * 3 + 2, none⟩ = some (.slice al m capl) := (hb5.cell (p := ⟨g, k * 3 + 2, none⟩) HX.out.2.2.1).trans q2
                refine hK.out _ _ ?hS37 (fun hHeld => ?_)
                case hS37 => (exact (HS.out _ hb5).1)
                clear hK K
                try simp only [Act.put, List.setIfInBounds_toArray, List.set_cons_zero, List.set_cons_succ]
                refine wpAnyH_ready (rs := [14, 17]) (by kernel_rfl) (by simp) ?_
                refine AllReadyH.cons (o := _) rfl (fun K hK => ?step38) ?_
                case step38 =>
                  rw [if_pos (by rfl)]
                  refine opwp_append_acts _ _ rfl W.heap.size (.slice (some ⟨W.heap.size, 0, none⟩) 0 0) [] rfl o5 al m capl x.2.2 rfl (HX.out.1.later (hb5)) (by have := HM.out; simp; omega) (hb5).size ?_
                  intro v14 X14 o14 g14 _
                  have hb14 := Below.grownA (hb5) o5 (hb5).size g14
                  rw [List.nil_append] at o14
                  clear g14
                  refine hK.out _ _ ?hS38 (fun hHeld => ?_)
                  case hS38 => (exact (HS.out _ hb14).1)
                  clear hK K
                  try simp only [Act.put, List.setIfInBounds_toArray, List.set_cons_zero, List.set_cons_succ]
                  refine wpAnyH_ready (rs := [17]) (by kernel_rfl) (by simp) ?_
                  refine AllReadyH.cons (o := _) rfl (fun K hK => ?step39) ?_
                  case step39 =>
                    go_simp
                    have hb17 : Below W.heap.size W (X14.alloc (.cells #[.bool true, .int .i64 (z : Int), .slice none 0 0] 97)) := (hb14).alloc (hb14).size (.cells #[.bool true, .int .i64 (z : Int), .slice none 0 0] 97)
                    have i17 : (X14.alloc (.cells #[.bool true, .int .i64 (z : Int), .slice none 0 0] 97)).heap[X14.heap.size]? = some (.cells #[.bool true, .int .i64 (z : Int), .slice none 0 0] 97 (0, 0)) := heap_alloc_new X14 _
                    have o17 := o14.later ((Below.refl _ X14).alloc (Nat.le_refl _) (.cells #[.bool true, .int .i64 (z : Int), .slice none 0 0] 97))
                    generalize (X14.alloc (.cells #[.bool true, .int .i64 (z : Int), .slice none 0 0] 97)) = X17 at hb17 i17 o17 ⊢
                    have q17 : X17.cell? ⟨g, k * 3 + 2, none⟩ = some (.slice al m capl) := (hb17.cell (p := ⟨g, k * 3 + 2, none⟩) HX.out.2.2.1).trans q2
                    refine hK.out _ _ ?hS39 (fun hHeld => ?_)
                    case hS39 => (exact (HS.out _ hb17).1)
                    clear hK K
                    try simp only [Act.put, List.setIfInBounds_toArray, List.set_cons_zero, List.set_cons_succ]
                    refine wpAnyH_ready (rs := [18]) (by kernel_rfl) (by simp) ?_
                    refine AllReadyH.cons (o := _) rfl (fun K hK => ?step40) ?_
                    case step40 =>
                      rw [if_pos (by rfl)]
                      refine opwp_append_acts _ _ rfl W.heap.size v14 x.2.2 rfl o17 (some ⟨X14.heap.size, 0, none⟩) 1 1 [.cut z] rfl (IsRActs.cut_at i17) (by have := HM.out; omega) (hb17).size ?_
                      intro v18 X18 o18 g18 _
                      have hb18 := Below.grownA (hb17) o17 (hb17).size g18
                      obtain ⟨a18, c18, hv18, hd18⟩ := o18.acts
                      obtain ⟨m18, hm18⟩ : ∃ m18, m18 = (x.2.2 ++ [Deed.cut z]).length := ⟨_, rfl⟩
                      rw [← hm18] at hv18 hd18
                      have HD18 := Lib.hid hd18
                      have q18 : X18.cell? ⟨g, k * 3 + 2, none⟩ = some (.slice al m capl) := (hb18.cell (p := ⟨g, k * 3 + 2, none⟩) HX.out.2.2.1).trans q2
                      subst hv18
                      clear g18 hd18 o18 hm18
                      refine hK.out _ _ ?hS40 (fun hHeld => ?_)
                      case hS40 => (exact (HS.out _ hb18).1)
                      clear hK K
                      try simp only [Act.put, List.setIfInBounds_toArray, List.set_cons_zero, List.set_cons_succ]
                      refine wpAnyH_take (i := 19) (v := ?v41) rfl (by kernel_rfl) (by kernel_rfl) (by kernel_rfl) (fun _ _ _ h => h) (Or.inl ⟨?hw41, ?hy41⟩) (by assumption) ?_
                      case hw41 => rfl
                      case hy41 => (intro w hSw; (try dsimp only at hSw); go_simp; (first | done | with_reducible rfl))
                      try simp only [Act.put, List.setIfInBounds_toArray, List.set_cons_zero, List.set_cons_succ]
                      refine wpAnyH_take (i := 20) (v := ?v42) rfl (by kernel_rfl) (by kernel_rfl) (by kernel_rfl) (fun _ _ _ h => h) (Or.inl ⟨?hw42, ?hy42⟩) (by assumption) ?_
                      case hw42 => rfl
                      case hy42 => (intro w hSw; (try dsimp only at hSw); go_simp; (first | done | with_reducible rfl))
                      try simp only [Act.put, List.setIfInBounds_toArray, List.set_cons_zero, List.set_cons_succ]
                      refine wpAnyH_ready (rs := [21]) (by kernel_rfl) (by simp) ?_
                      refine AllReadyH.cons (o := _) rfl (fun K hK => ?step43) ?_
                      case step43 =>
                        go_simp
                        refine hK.out _ _ ?hS43 (fun hHeld => ?_)
                        case hS43 => (exact (HS.out _ hb18).2 _)
                        clear hK K
                        try simp only [Act.put, List.setIfInBounds_toArray, List.set_cons_zero, List.set_cons_succ]
                        refine wpAnyH_done (by kernel_rfl) ?_ _
                        obtain ⟨hR, hMV⟩ := (HAT.out X18 hb18).2.1 _ _ _ _ HD18.out
                        have HE := Lib.hid (HK.out _ hR ((MovedR.of_below hb18 HX.out.2.2.2.1 HX.out.2.2.2.2).trans hMV))
                        clear hR hMV
                        go_wp2_with fail
                        go_ret
                        exact HE.out
                      exact AllReadyH.nil
                    exact AllReadyH.nil
                  exact AllReadyH.nil
                refine AllReadyH.cons (o := _) rfl (fun K hK => ?step44) ?_
                case step44 =>
                  go_simp
                  have hb17 : Below W.heap.size W (X5.alloc (.cells #[.bool true, .int .i64 (z : Int), .slice none 0 0] 97)) := (hb5).alloc (hb5).size (.cells #[.bool true, .int .i64 (z : Int), .slice none 0 0] 97)
                  have i17 : (X5.alloc (.cells #[.bool true, .int .i64 (z : Int), .slice none 0 0] 97)).heap[X5.heap.size]? = some (.cells #[.bool true, .int .i64 (z : Int), .slice none 0 0] 97 (0, 0)) := heap_alloc_new X5 _
                  have o17 := o5.later ((Below.refl _ X5).alloc (Nat.le_refl _) (.cells #[.bool true, .int .i64 (z : Int), .slice none 0 0] 97))
                  generalize (X5.alloc (.cells #[.bool true, .int .i64 (z : Int), .slice none 0 0] 97)) = X17 at hb17 i17 o17 ⊢
                  have q17 : X17.cell? ⟨g, k * 3 + 2, none⟩ = some (.slice al m capl) := (hb17.cell (p := ⟨g, k * 3 + 2, none⟩) HX.out.2.2.1).trans q2
                  refine hK.out _ _ ?hS44 (fun hHeld => ?_)
                  case hS44 => (exact (HS.out _ hb17).1)
                  clear hK K
                  try simp only [Act.put, List.setIfInBounds_toArray, List.set_cons_zero, List.set_cons_succ]
                  refine wpAnyH_ready (rs := [14]) (by kernel_rfl) (by simp) ?_
                  refine AllReadyH.cons (o := _) rfl (fun K hK => ?step45) ?_
                  case step45 =>
                    rw [if_pos (by rfl)]
                    refine opwp_append_acts _ _ rfl W.heap.size (.slice (some ⟨W.heap.size, 0, none⟩) 0 0) [] rfl o17 al m capl x.2.2 rfl (HX.out.1.later (hb17)) (by have := HM.out; simp; omega) (hb17).size ?_
                    intro v14 X14 o14 g14 _
                    have hb14 := Below.grownA (hb17) o17 (hb17).size g14
                    have i14 := (g14.block X5.heap.size (heap_lt i17) (fun e => by have h5 : W.heap.size < X5.heap.size := (o5.lt rfl).2; injection e with e; (try dsimp only at e); omega)).trans i17
                    rw [List.nil_append] at o14
                    clear g14
                    refine hK.out _ _ ?hS45 (fun hHeld => ?_)
                    case hS45 => (exact (HS.out _ hb14).1)
                    clear hK K
                    try simp only [Act.put, List.setIfInBounds_toArray, List.set_cons_zero, List.set_cons_succ]
                    refine wpAnyH_ready (rs := [18]) (by kernel_rfl) (by simp) ?_
                    refine AllReadyH.cons (o := _) rfl (fun K hK => ?step46) ?_
                    case step46 =>
                      rw [if_pos (by rfl)]
                      refine opwp_append_acts _ _ rfl W.heap.size v14 x.2.2 rfl o14 (some ⟨X5.heap.size, 0, none⟩) 1 1 [.cut z] rfl (IsRActs.cut_at i14) (by have := HM.out; omega) (hb14).size ?_
                      intro v18 X18 o18 g18 _
                      have hb18 := Below.grownA (hb14) o14 (hb14).size g18
                      obtain ⟨a18, c18, hv18, hd18⟩ := o18.acts
                      obtain ⟨m18, hm18⟩ : ∃ m18, m18 = (x.2.2 ++ [Deed.cut z]).length := ⟨_, rfl⟩
                      rw [← hm18] at hv18 hd18
                      have HD18 := Lib.hid hd18
                      have q18 : X18.cell? ⟨g, k * 3 + 2, none⟩ = some (.slice al m capl) := (hb18.cell (p := ⟨g, k * 3 + 2, none⟩) HX.out.2.2.1).trans q2
                      subst hv18
                      clear g18 hd18 o18 hm18
                      refine hK.out _ _ ?hS46 (fun hHeld => ?_)
                      case hS46 => (exact (HS.out _ hb18).1)
                      clear hK K
                      try simp only [Act.put, List.setIfInBounds_toArray, List.set_cons_zero, List.set_cons_succ]
                      refine wpAnyH_take (i := 19) (v := ?v47) rfl (by kernel_rfl) (by kernel_rfl) (by kernel_rfl) (fun _ _ _ h => h) (Or.inl ⟨?hw47, ?hy47⟩) (by assumption) ?_
                      case hw47 => rfl
                      case hy47 => (intro w hSw; (try dsimp only at hSw); go_simp; (first | done | with_reducible rfl))
                      try simp only [Act.put, List.setIfInBounds_toArray, List.set_cons_zero, List.set_cons_succ]
                      refine wpAnyH_take (i := 20) (v := ?v48) rfl (by kernel_rfl) (by kernel_rfl) (by kernel_rfl) (fun _ _ _ h => h) (Or.inl ⟨?hw48, ?hy48⟩) (by assumption) ?_
                      case hw48 => rfl
                      case hy48 => (intro w hSw; (try dsimp only at hSw); go_simp; (first | done | with_reducible rfl))
                      try simp only [Act.put, List.setIfInBounds_toArray, List.set_cons_zero, List.set_cons_succ]
                      refine wpAnyH_ready (rs := [21]) (by kernel_rfl) (by simp) ?_
                      refine AllReadyH.cons (o := _) rfl (fun K hK => ?step49) ?_
                      case step49 =>
                        go_simp
                        refine hK.out _ _ ?hS49 (fun hHeld => ?_)
                        case hS49 => (exact (HS.out _ hb18).2 _)
                        clear hK K
                        try simp only [Act.put, List.setIfInBounds_toArray, List.set_cons_zero, List.set_cons_succ]
                        refine wpAnyH_done (by kernel_rfl) ?_ _
                        obtain ⟨hR, hMV⟩ := (HAT.out X18 hb18).2.1 _ _ _ _ HD18.out
                        have HE := Lib.hid (HK.out _ hR ((MovedR.of_below hb18 HX.out.2.2.2.1 HX.out.2.2.2.2).trans hMV))
                        clear hR hMV
                        go_wp2_with fail
                        go_ret
                        exact HE.out
                      exact AllReadyH.nil
                    exact AllReadyH.nil
                  exact AllReadyH.nil
                exact AllReadyH.nil
              refine AllReadyH.cons (o := _) rfl (fun K hK => ?step50) ?_
              case step50 =>
                go_simp
                have hb17 : Below W.heap.size W (W.alloc (.cells #[.bool true, .int .i64 (z : Int), .slice none 0 0] 97)).drew := ((Below.refl W.heap.size W).alloc (Nat.le_refl _) (.cells #[.bool true, .int .i64 (z : Int), .slice none 0 0] 97)).drew
                have i17 : (W.alloc (.cells #[.bool true, .int .i64 (z : Int), .slice none 0 0] 97)).drew.heap[W.heap.size]? = some (.cells #[.bool true, .int .i64 (z : Int), .slice none 0 0] 97 (0, 0)) := heap_alloc_new W _
                generalize (W.alloc (.cells #[.bool true, .int .i64 (z : Int), .slice none 0 0] 97)).drew = X17 at hb17 i17 ⊢
                have q17 : X17.cell? ⟨g, k * 3 + 2, none⟩ = some (.slice al m capl) := (hb17.cell (p := ⟨g, k * 3 + 2, none⟩) HX.out.2.2.1).trans q2
                refine hK.out _ _ ?hS50 (fun hHeld => ?_)
                case hS50 => (exact (HS.out _ hb17).1)
                clear hK K
                try simp only [Act.put, List.setIfInBounds_toArray, List.set_cons_zero, List.set_cons_succ]
                refine wpAnyH_ready (rs := [5]) (by kernel_rfl) (by simp) ?_
                refine AllReadyH.cons (o := _) rfl (fun K hK => ?step51) ?_
                case step51 =>
                  go_simp
                  have hb5 : Below W.heap.size W (X17.alloc (.cells #[] 97)) := (hb17).alloc (hb17).size (.cells #[] 97)
                  have o5 : OwnA (X17.alloc (.cells #[] 97)) W.heap.size (.slice (some ⟨X17.heap.size, 0, none⟩) 0 0) [] := OwnA.none_new X17 _ (hb17).size
                  have i5 : (X17.alloc (.cells #[] 97)).heap[W.heap.size]? = some (.cells #[.bool true, .int .i64 (z : Int), .slice none 0 0] 97 (0, 0)) := (heap_alloc_old' X17 _ (heap_lt i17)).trans i17
                  generalize (X17.alloc (.cells #[] 97)) = X5 at hb5 o5 i5 ⊢
                  have q5 : X5.cell? ⟨g, k * 3 + 2, none⟩ = some (.slice al m capl) := (hb5.cell (p := ⟨g, k * 3 + 2, none⟩) HX.out.2.2.1).trans q2
                  refine hK.out _ _ ?hS51 (fun hHeld => ?_)
                  case hS51 => (exact (HS.out _ hb5).1)
                  clear hK K
                  try simp only [Act.put, List.setIfInBounds_toArray, List.set_cons_zero, List.set_cons_succ]
                  refine wpAnyH_ready (rs := [14]) (by kernel_rfl) (by simp) ?_
                  refine AllReadyH.cons (o := _) rfl (fun K hK => ?step52) ?_
                  case step52 =>
                    rw [if_pos (by rfl)]
                    refine opwp_append_acts _ _ rfl W.heap.size (.slice (some ⟨X17.heap.size, 0, none⟩) 0 0) [] rfl o5 al m capl x.2.2 rfl (HX.out.1.later (hb5)) (by have := HM.out; simp; omega) (hb5).size ?_
                    intro v14 X14 o14 g14 _
                    have hb14 := Below.grownA (hb5) o5 (hb5).size g14
                    have i14 := (g14.block W.heap.size (heap_lt i5) (fun e => by have := heap_lt i17; injection e with e; (try dsimp only at e); omega)).trans i5
                    rw [List.nil_append] at o14
                    clear g14
                    refine hK.out _ _ ?hS52 (fun hHeld => ?_)
                    case hS52 => (exact (HS.out _ hb14).1)
                    clear hK K
                    try simp only [Act.put, List.setIfInBounds_toArray, List.set_cons_zero, List.set_cons_succ]
                    refine wpAnyH_ready (rs := [18]) (by kernel_rfl) (by simp) ?_
                    refine AllReadyH.cons (o := _) rfl (fun K hK => ?step53) ?_
                    case step53 =>
                      rw [if_pos (by rfl)]
                      refine opwp_append_acts _ _ rfl W.heap.size v14 x.2.2 rfl o14 (some ⟨W.heap.size, 0, none⟩) 1 1 [.cut z] rfl (IsRActs.cut_at i14) (by have := HM.out; omega) (hb14).size ?_
                      intro v18 X18 o18 g18 _
                      have hb18 := Below.grownA (hb14) o14 (hb14).size g18
                      obtain ⟨a18, c18, hv18, hd18⟩ := o18.acts
                      obtain ⟨m18, hm18⟩ : ∃ m18, m18 = (x.2.2 ++ [Deed.cut z]).length := ⟨_, rfl⟩
                      rw [← hm18] at hv18 hd18
                      have HD18 := Lib.hid hd18
                      have q18 : X18.cell? ⟨g, k * 3 + 2, none⟩ = some (.slice al m capl) := (hb18.cell (p := ⟨g, k * 3 + 2, none⟩) HX.out.2.2.1).trans q2
                      subst hv18
                      clear g18 hd18 o18 hm18
                      refine hK.out _ _ ?hS53 (fun hHeld => ?_)
                      case hS53 => (exact (HS.out _ hb18).1)
                      clear hK K
                      try simp only [Act.put, List.setIfInBounds_toArray, List.set_cons_zero, List.set_cons_succ]
                      refine wpAnyH_take (i := 19) (v := ?v54) rfl (by kernel_rfl) (by kernel_rfl) (by kernel_rfl) (fun _ _ _ h => h) (Or.inl ⟨?hw54, ?hy54⟩) (by assumption) ?_
                      case hw54 => rfl
                      case hy54 => (intro w hSw; (try dsimp only at hSw); go_simp; (first | done | with_reducible rfl))
                      try simp only [Act.put, List.setIfInBounds_toArray, List.set_cons_zero, List.set_cons_succ]
                      refine wpAnyH_take (i := 20) (v := ?v55) rfl (by kernel_rfl) (by kernel_rfl) (by kernel_rfl) (fun _ _ _ h => h) (Or.inl ⟨?hw55, ?hy55⟩) (by assumption) ?_
                      case hw55 => rfl
                      case hy55 => (intro w hSw; (try dsimp only at hSw); go_simp; (first | done | with_reducible rfl))
                      try simp only [Act.put, List.setIfInBounds_toArray, List.set_cons_zero, List.set_cons_succ]
                      refine wpAnyH_ready (rs := [21]) (by kernel_rfl) (by simp) ?_
                      refine AllReadyH.cons (o := _) rfl (fun K hK => ?step56) ?_
                      case step56 =>
                        go_simp
                        refine hK.out _ _ ?hS56 (fun hHeld => ?_)
                        case hS56 => (exact (HS.out _ hb18).2 _)
                        clear hK K
                        try simp only [Act.put, List.setIfInBounds_toArray, List.set_cons_zero, List.set_cons_succ]
                        refine wpAnyH_done (by kernel_rfl) ?_ _
                        obtain ⟨hR, hMV⟩ := (HAT.out X18 hb18).2.1 _ _ _ _ HD18.out
                        have HE := Lib.hid (HK.out _ hR ((MovedR.of_below hb18 HX.out.2.2.2.1 HX.out.2.2.2.2).trans hMV))
                        clear hR hMV
                        go_wp2_with fail
                        go_ret
                        exact HE.out
                      exact AllReadyH.nil
                    exact AllReadyH.nil
                  exact AllReadyH.nil
                exact AllReadyH.nil
              exact AllReadyH.nil
            refine AllReadyH.cons (o := _) rfl (fun K hK => ?step57) ?_
            case step57 =>
              go_simp
              have hb17 : Below W.heap.size W (W.alloc (.cells #[.bool true, .int .i64 (z : Int), .slice none 0 0] 97)).drew := ((Below.refl W.heap.size W).alloc (Nat.le_refl _) (.cells #[.bool true, .int .i64 (z : Int), .slice none 0 0] 97)).drew
              have i17 : (W.alloc (.cells #[.bool true, .int .i64 (z : Int), .slice none 0 0] 97)).drew.heap[W.heap.size]? = some (.cells #[.bool true, .int .i64 (z : Int), .slice none 0 0] 97 (0, 0)) := heap_alloc_new W _
              generalize (W.alloc (.cells #[.bool true, .int .i64 (z : Int), .slice none 0 0] 97)).drew = X17 at hb17 i17 ⊢
              have q17 : X17.cell? ⟨g, k * 3 + 2, none⟩ = some (.slice al m capl) := (hb17.cell (p := ⟨g, k * 3 + 2, none⟩) HX.out.2.2.1).trans q2
              refine hK.out _ _ ?hS57 (fun hHeld => ?_)
              case hS57 => (exact (HS.out _ hb17).1)
              clear hK K
              try simp only [Act.put, List.setIfInBounds_toArray, List.set_cons_zero, List.set_cons_succ]
              refine wpAnyH_ready (rs := [5, 13]) (by kernel_rfl) (by simp) ?_
              refine AllReadyH.cons (o := _) rfl (fun K hK => ?step58) ?_
              case step58 =>
                go_simp
                have hb5 : Below W.heap.size W (X17.alloc (.cells #[] 97)) := (hb17).alloc (hb17).size (.cells #[] 97)
                have o5 : OwnA (X17.alloc (.cells #[] 97)) W.heap.size (.slice (some ⟨X17.heap.size, 0, none⟩) 0 0) [] := OwnA.none_new X17 _ (hb17).size
                have i5 : (X17.alloc (.cells #[] 97)).heap[W.heap.size]? = some (.cells #[.bool true, .int .i64 (z : Int), .slice none 0 0] 97 (0, 0)) := (heap_alloc_old' X17 _ (heap_lt i17)).trans i17
                generalize (X17.alloc (.cells #[] 97)) = X5 at hb5 o5 i5 ⊢
                have q5 : X5.cell? ⟨g, k * 3 + 2, none⟩ = some (.slice al m capl) := (hb5.cell (p := ⟨g, k * 3 + 2, none⟩) HX.out.2.2.1).trans q2
                refine hK.out _ _ ?hS58 (fun hHeld => ?_)
                case hS58 => (exact (HS.out _ hb5).1)
                clear hK K
                try simp only [Act.put, List.setIfInBounds_toArray, List.set_cons_zero, List.set_cons_succ]
                refine wpAnyH_ready (rs := [13]) (by kernel_rfl) (by simp) ?_
                refine AllReadyH.cons (o := _) rfl (fun K hK => ?step59) ?_
                case step59 =>
                  go_simp
                  refine hK.out _ _ ?hS59 (fun hHeld => ?_)
                  case hS59 => (exact (HS.out _ (hb5)).1)
                  clear hK K
                  try simp only [Act.put, List.setIfInBounds_toArray, List.set_cons_zero, List.set_cons_succ]
                  refine wpAnyH_ready (rs := [14]) (by kernel_rfl) (by simp) ?_
                  refine AllReadyH.cons (o := _) rfl (fun K hK => ?step60) ?_
                  case step60 =>
                    rw [if_pos (by rfl)]
                    refine opwp_append_acts _ _ rfl W.heap.size (.slice (some ⟨X17.heap.size, 0, none⟩) 0 0) [] rfl o5 al m capl x.2.2 rfl (HX.out.1.later (hb5)) (by have := HM.out; simp; omega) (hb5).size ?_
                    intro v14 X14 o14 g14 _
                    have hb14 := Below.grownA (hb5) o5 (hb5).size g14
                    have i14 := (g14.block W.heap.size (heap_lt i5) (fun e => by have := heap_lt i17; injection e with e; (try dsimp only at e); omega)).trans i5
                    rw [List.nil_append] at o14
                    clear g14
                    refine hK.out _ _ ?hS60 (fun hHeld => ?_)
                    case hS60 => (exact (HS.out _ hb14).1)
                    clear hK K
                    try simp only [Act.put, List.setIfInBounds_toArray, List.set_cons_zero, List.set_cons_succ]
                    refine wpAnyH_ready (rs := [18]) (by kernel_rfl) (by simp) ?_
                    refine AllReadyH.cons (o := _) rfl (fun K hK => ?step61) ?_
                    case step61 =>
                      rw [if_pos (by rfl)]
                      refine opwp_append_acts _ _ rfl W.heap.size v14 x.2.2 rfl o14 (some ⟨W.heap.size, 0, none⟩) 1 1 [.cut z] rfl (IsRActs.cut_at i14) (by have := HM.out; omega) (hb14).size ?_
                      intro v18 X18 o18 g18 _
                      have hb18 := Below.grownA (hb14) o14 (hb14).size g18
                      obtain ⟨a18, c18, hv18, hd18⟩ := o18.acts
                      obtain ⟨m18, hm18⟩ : ∃ m18, m18 = (x.2.2 ++ [Deed.cut z]).length := ⟨_, rfl⟩
                      rw [← hm18] at hv18 hd18
                      have HD18 := Lib.hid hd18
                      have q18 : X18.cell? ⟨g, k * 3 + 2, none⟩ = some (.slice al m capl) := (hb18.cell (p := ⟨g, k * 3 + 2, none⟩) HX.out.2.2.1).trans q2
                      subst hv18
                      clear g18 hd18 o18 hm18
                      refine hK.out _ _ ?hS61 (fun hHeld => ?_)
                      case hS61 => (exact (HS.out _ hb18).1)
                      clear hK K
                      try simp only [Act.put, List.setIfInBounds_toArray, List.set_cons_zero, List.set_cons_succ]
                      refine wpAnyH_take (i := 19) (v := ?v62) rfl (by kernel_rfl) (by kernel_rfl) (by kernel_rfl) (fun _ _ _ h => h) (Or.inl ⟨?hw62, ?hy62⟩) (by assumption) ?_
                      case hw62 => rfl
                      case hy62 => (intro w hSw; (try dsimp only at hSw); go_simp; (first | done | with_reducible rfl))
                      try simp only [Act.put, List.setIfInBounds_toArray, List.set_cons_zero, List.set_cons_succ]
                      refine wpAnyH_take (i := 20) (v := ?v63) rfl (by kernel_rfl) (by kernel_rfl) (by kernel_rfl) (fun _ _ _ h => h) (Or.inl ⟨?hw63, ?hy63⟩) (by assumption) ?_
                      case hw63 => rfl
                      case hy63 => (intro w hSw; (try dsimp only at hSw); go_simp; (first | done | with_reducible rfl))
                      try simp only [Act.put, List.setIfInBounds_toArray, List.set_cons_zero, List.set_cons_succ]
                      refine wpAnyH_ready (rs := [21]) (by kernel_rfl) (by simp) ?_
                      refine AllReadyH.cons (o := _) rfl (fun K hK => ?step64) ?_
                      case step64 =>
                        go_simp
                        refine hK.out _ _ ?hS64 (fun hHeld => ?_)
                        case hS64 => (exact (HS.out _ hb18).2 _)
                        clear hK K
                        try simp only [Act.put, List.setIfInBounds_toArray, List.set_cons_zero, List.set_cons_succ]
                        refine wpAnyH_done (by kernel_rfl) ?_ _
                        obtain ⟨hR, hMV⟩ := (HAT.out X18 hb18).2.1 _ _ _ _ HD18.out
                        have HE := Lib.hid (HK.out _ hR ((MovedR.of_below hb18 HX.out.2.2.2.1 HX.out.2.2.2.2).trans hMV))
                        clear hR hMV
                        go_wp2_with fail
                        go_ret
                        exact HE.out
                      exact AllReadyH.nil
                    exact AllReadyH.nil
                  exact AllReadyH.nil
                exact AllReadyH.nil
              refine AllReadyH.cons (o := _) rfl (fun K hK => ?step65) ?_
              case step65 =>
                go_simp
                refine hK.out _ _ ?hS65 (fun hHeld => ?_)
                case hS65 => (exact (HS.out _ (hb17)).1)
                clear hK K
                try simp only [Act.put, List.setIfInBounds_toArray, List.set_cons_zero, List.set_cons_succ]
                refine wpAnyH_ready (rs := [5]) (by kernel_rfl) (by simp) ?_
                refine AllReadyH.cons (o := _) rfl (fun K hK => ?step66) ?_
                case step66 =>
                  go_simp
                  have hb5 : Below W.heap.size W (X17.alloc (.cells #[] 97)) := (hb17).alloc (hb17).size (.cells #[] 97)
                  have o5 : OwnA (X17.alloc (.cells #[] 97)) W.heap.size (.slice (some ⟨X17.heap.size, 0, none⟩) 0 0) [] := OwnA.none_new X17 _ (hb17).size
                  have i5 : (X17.alloc (.cells #[] 97)).heap[W.heap.size]? = some (.cells #[.bool true, .int .i64 (z : Int), .slice none 0 0] 97 (0, 0)) := (heap_alloc_old' X17 _ (heap_lt i17)).trans i17
                  generalize (X17.alloc (.cells #[] 97)) = X5 at hb5 o5 i5 ⊢
                  have q5 : X5.cell? ⟨g, k * 3 + 2, none⟩ = some (.slice al m capl) := (hb5.cell (p := ⟨g, k * 3 + 2, none⟩) HX.out.2.2.1).trans q2
                  refine hK.out _ _ ?hS66 (fun hHeld => ?_)
                  case hS66 => (exact (HS.out _ hb5).1)
                  clear hK K
                  try simp only [Act.put, List.setIfInBounds_toArray, List.set_cons_zero, List.set_cons_succ]
                  refine wpAnyH_ready (rs := [14]) (by kernel_rfl) (by simp) ?_
                  refine AllReadyH.cons (o := _) rfl (fun K hK => ?step67) ?_
                  case step67 =>
                    rw [if_pos (by rfl)]
                    refine opwp_append_acts _ _ rfl W.heap.size (.slice (some ⟨X17.heap.size, 0, none⟩) 0 0) [] rfl o5 al m capl x.2.2 rfl (HX.out.1.later (hb5)) (by have := HM.out; simp; omega) (hb5).size ?_
                    intro v14 X14 o14 g14 _
                    have hb14 := Below.grownA (hb5) o5 (hb5).size g14
                    have i14 := (g14.block W.heap.size (heap_lt i5) (fun e => by have := heap_lt i17; injection e with e; (try dsimp only at e); omega)).trans i5
                    rw [List.nil_append] at o14
                    clear g14
                    refine hK.out _ _ ?hS67 (fun hHeld => ?_)
                    case hS67 => (exact (HS.out _ hb14).1)
                    clear hK K
                    try simp only [Act.put, List.setIfInBounds_toArray, List.set_cons_zero, List.set_cons_succ]
                    refine wpAnyH_ready (rs := [18]) (by kernel_rfl) (by simp) ?_
                    refine AllReadyH.cons (o := _) rfl (fun K hK => ?step68) ?_
                    case step68 =>
                      rw [if_pos (by rfl)]
                      refine opwp_append_acts _ _ rfl W.heap.size v14 x.2.2 rfl o14 (some ⟨W.heap.size, 0, none⟩) 1 1 [.cut z] rfl (IsRActs.cut_at i14) (by have := HM.out; omega) (hb14).size ?_
                      intro v18 X18 o18 g18 _
                      have hb18 := Below.grownA (hb14) o14 (hb14).size g18
                      obtain ⟨a18, c18, hv18, hd18⟩ := o18.acts
                      obtain ⟨m18, hm18⟩ : ∃ m18, m18 = (x.2.2 ++ [Deed.cut z]).length := ⟨_, rfl⟩
                      rw [← hm18] at hv18 hd18
                      have HD18 := Lib.hid hd18
                      have q18 : X18.cell? ⟨g, k * 3 + 2, none⟩ = some (.slice al m capl) := (hb18.cell (p := ⟨g, k * 3 + 2, none⟩) HX.out.2.2.1).trans q2
                      subst hv18
                      clear g18 hd18 o18 hm18
                      refine hK.out _ _ ?hS68 (fun hHeld => ?_)
                      case hS68 => (exact (HS.out _ hb18).1)
                      clear hK K
                      try simp only [Act.put, List.setIfInBounds_toArray, List.set_cons_zero, List.set_cons_succ]
                      refine wpAnyH_take (i := 19) (v := ?v69) rfl (by kernel_rfl) (by kernel_rfl) (by kernel_rfl) (fun _ _ _ h => h) (Or.inl ⟨?hw69, ?hy69⟩) (by assumption) ?_
                      case hw69 => rfl
                      case hy69 => (intro w hSw; (try dsimp only at hSw); go_simp; (first | done | with_reducible rfl))
                      try simp only [Act.put, List.setIfInBounds_toArray, List.set_cons_zero, List.set_cons_succ]
                      refine wpAnyH_take (i := 20) (v := ?v70) rfl (by kernel_rfl) (by kernel_rfl) (by kernel_rfl) (fun _ _ _ h => h) (Or.inl ⟨?hw70, ?hy70⟩) (by assumption) ?_
                      case hw70 => rfl
                      case hy70 => (intro w hSw; (try dsimp only at hSw); go_simp; (first | done | with_reducible rfl))
                      try simp only [Act.put, List.setIfInBounds_toArray, List.set_cons_zero, List.set_cons_succ]
                      refine wpAnyH_ready (rs := [21]) (by kernel_rfl) (by simp) ?_
                      refine AllReadyH.cons (o := _) rfl (fun K hK => ?step71) ?_
                      case step71 =>
                        go_simp
                        refine hK.out _ _ ?hS71 (fun hHeld => ?_)
                        case hS71 => (exact (HS.out _ hb18).2 _)
                        clear hK K
                        try simp only [Act.put, List.setIfInBounds_toArray, List.set_cons_zero, List.set_cons_succ]
                        refine wpAnyH_done (by kernel_rfl) ?_ _
                        obtain ⟨hR, hMV⟩ := (HAT.out X18 hb18).2.1 _ _ _ _ HD18.out
                        have HE := Lib.hid (HK.out _ hR ((MovedR.of_below hb18 HX.out.2.2.2.1 HX.out.2.2.2.2).trans hMV))
                        clear hR hMV
                        go_wp2_with fail
                        go_ret
                        exact HE.out
                      exact AllReadyH.nil
                    exact AllReadyH.nil
                  exact AllReadyH.nil
                exact AllReadyH.nil
              exact AllReadyH.nil
            exact AllReadyH.nil
    · go_wp2_with fail
      go_ret
      exact .inr ⟨rfl, -1, HZ.out, .inl ⟨by omega, rfl, rfl⟩⟩
end Go.Proofs.YtjkkfjmloleedaaGreat
