/- layer 27's statements: DiskScript -/
import Derived.Test.YtmpjjkfbojhfoaaDSame
import Derived.Test.YtmpjjkfbojhfoaaDMore
set_option linter.unusedSimpArgs false
set_option linter.unusedVariables false
namespace Go.Proofs.Ytmpjjkfbojhfoaa
open Go.RowKit
def sig0 : Sig := ⟨[], 0, false, 0, false⟩
theorem sig0_lim : Lim 0 0 sig0 := ⟨(fun x hx => by cases hx), by decide, by decide, by decide, by decide⟩
/-- what long says of calls. -/
def Few (X : List ActV) (n : Nat) : Prop := n ≤ 100 ∧ sumA X n ≤ 3000 ∧ ∀ i, i < n → (X.getD i act0).fits
theorem sumA_le {X : List ActV} {k n : Nat} (h : k ≤ n) : sumA X k ≤ sumA X n := by
  unfold sumA
  have e : X.take k = (X.take n).take k := by rw [List.take_take, Nat.min_eq_left h]
  rw [e, List.map_take]
  obtain ⟨l, hl⟩ : ∃ l, l = (X.take n).map (·.bn) := ⟨_, rfl⟩
  rw [← hl]
  have := List.take_append_drop k l
  conv => rhs; rw [← this]
  rw [List.sum_append]
  omega
/-- both disks are new. -/
theorem new_act {w w1 w2 : World} {d mb r : Nat} (hd : @DSig ⟨none⟩ w1 d mb w.heap.size sig0) (hb : Below w1.heap.size w1 w2) (hr : w2.heap[r]? = some (.cells #[.slice none 0 0, .int .i64 0, .bool false, .int .i64 0, .bool false] 43 (0, 0))) (hr2 : w.heap.size ≤ r) (hb1 : w.heap.size ≤ w1.heap.size) : ActAt w2 d mb r w.heap.size 0 0 sig0 :=
  ⟨@DSig.later ⟨none⟩ _ _ _ _ _ _ hd hb, ⟨hr2, .slice none 0 0, [], hr, Own3.nil _ _ _, rfl, fun i hi => absurd hi (by simp [sig0])⟩, sig0_lim, Nat.le_trans hb1 hb.size⟩
theorem New_sig (w : World) : Calls Try.prog 11 #[] w fun e w' => ∃ d mb, e = .returned (.pointer (some ⟨d, 0, none⟩)) ∧ @DSig ⟨none⟩ w' d mb w.heap.size sig0 ∧ Below w.heap.size w w' := by
  refine (@New_G ⟨none⟩ w (fun _ => ([], [])) (fun k hk => by cases hk)).mono ?_
  rintro e w' ⟨d, mb, rfl, h1, h2, h3, h4⟩
  exact ⟨d, mb, rfl, ⟨[], _, -1, h3, ⟨List.Pairwise.nil, (fun x hx => by cases hx), (fun x hx => by cases hx)⟩, .inl ⟨rfl, rfl⟩⟩, h4⟩
set_option maxRecDepth 100000 in
theorem DiskScript_any (ao : Option Addr) (n cap : Nat) (X : List ActV) (w : World) (hX : IsActsZ w ao n cap X) :
    Calls Try.prog 8 #[.slice ao n cap] w fun e w' => e = .returned (.bool true) ∧ Below w.heap.size w w' := by
  have hc1 := hX.1.2.2.1
  have hn1 := hX.1.2.1
  unfold maxLen at hc1
  have HX := Lib.hid hX
  have HLONG := Lib.hid (long_any ao n cap X w hX.1 (fun k hk hk1 => by
    have h1 : sumA X k ≤ k * 140737488355328 := by
      clear hn1 hc1
      induction k with
      | zero => simp [sumA]
      | succ k ih =>
        rw [sumA_succ (by rw [hX.1.1]; omega)]
        have := ih (by omega) (by omega)
        have := hX.2 k (by omega)
        omega
    omega))
  clear hX
  go_enter Try.func8, Try.ntmps8
  go_wp2_with fail
  refine HLONG.out.mono ?_
  rintro e w' ⟨rr, rfl, hrr, rfl⟩
  cases rr with
  | true =>
    go_wp2_with fail
    go_ret
    exact ⟨rfl, Below.refl _ _⟩
  | false =>
    have HF : Hid (Few X n) := Lib.hid (hrr rfl)
    clear hrr
    go_wp2_with fail
    refine (New_sig w).mono ?_
    rintro e w1 ⟨d, mb, rfl, hd, hb1⟩
    have H1 := Lib.hid (And.intro hd hb1)
    clear hd hb1
    go_wp2_with fail
    have hr := heap_alloc_new w1 (.cells #[.slice none 0 0, .int .i64 0, .bool false, .int .i64 0, .bool false] 43)
    have hb2 : Below w1.heap.size w1 (w1.alloc (.cells #[.slice none 0 0, .int .i64 0, .bool false, .int .i64 0, .bool false] 43)) := (Below.refl _ _).alloc (Nat.le_refl _) _
    obtain ⟨r, hre⟩ : ∃ r, r = w1.heap.size := ⟨_, rfl⟩
    rw [← hre] at hr ⊢
    generalize w1.alloc (.cells #[.slice none 0 0, .int .i64 0, .bool false, .int .i64 0, .bool false] 43) = w2 at hr hb2 ⊢
    have H2 := Lib.hid (And.intro (new_act H1.out.1 hb2 hr (by rw [hre]; exact H1.out.2.size) H1.out.2.size) (H1.out.2.trans (hb2.mono H1.out.2.size)))
    clear hr hb2 hre
    go_loopw [5] (fun i wr => ∃ k : Nat, k ≤ n ∧ i = .int .i64 k ∧ Hid ((∃ g, ActAt wr d mb r w.heap.size (sumA X k + k) k g) ∧ Below w.heap.size w wr)) (fun i _ => n - (intOf i).toNat)
    case atStart => exact ⟨0, by omega, rfl, Lib.hid ⟨⟨_, H2.out.1⟩, H2.out.2⟩⟩
    case round =>
      obtain ⟨k, hk, rfl, hI⟩ := hrel
      by_cases hlt : k < n
      · have hi0 : (0 : Int) ≤ (k : Int) := by omega
        have hi1 : (k : Int) < (n : Int) := by omega
        obtain ⟨b, off, rfl, hcs⟩ := (HX.out.1.later hI.out.2).2.2.2 (by omega)
        obtain ⟨hcell, hok⟩ := hcs k hlt
        have hok0 : ∀ w', Below w.heap.size wr w' → ActOk w' (X.getD k act0) := fun w' hb => by
          obtain ⟨_, _, _, hcs'⟩ := (HX.out.1.later (hI.out.2.trans hb)).2.2.2 (by omega)
          exact (hcs' k hlt).2
        have hstep := sumA_succ (X := X) (k := k) (by rw [HX.out.1.1]; exact hlt)
        have hsle := sumA_le (X := X) (k := k + 1) (n := n) (by omega)
        obtain ⟨x, hxe⟩ : ∃ x, x = X.getD k act0 := ⟨_, rfl⟩
        have hfx := HF.out.2.2 k hlt
        rw [← hxe] at hcell hok hok0 hstep hfx
        have h0 := hcell 0 (by omega)
        have h1 := hcell 1 (by omega)
        have h2 := hcell 2 (by omega)
        have h3 := hcell 3 (by omega)
        have h4 := hcell 4 (by omega)
        have h5 := hcell 5 (by omega)
        have HK := Lib.hid (And.intro hstep (And.intro hsle (And.intro hfx (And.intro hok hok0))))
        clear hcell hcs hok hok0 hstep hsle hfx hxe
        change wr.cell? ⟨b, off + k * 6 + 0, none⟩ = some (.int .i64 x.kind) at h0
        change wr.cell? ⟨b, off + k * 6 + 1, none⟩ = some (.int .i64 x.size) at h1
        change wr.cell? ⟨b, off + k * 6 + 2, none⟩ = some (.string x.nm) at h2
        change wr.cell? ⟨b, off + k * 6 + 3, none⟩ = some (.string x.«to») at h3
        change wr.cell? ⟨b, off + k * 6 + 4, none⟩ = some (.slice x.ba x.bn x.bc) at h4
        change wr.cell? ⟨b, off + k * 6 + 5, none⟩ = some (.slice x.ka x.kn x.kc) at h5
        rw [Nat.add_zero] at h0
        go_wp2_with fail
        obtain ⟨g, hA⟩ := hI.out.1
        have HA := Lib.hid hA
        clear hA h0 h1 h2 h3 h4 h5
        refine (act_any (x := x) HA.out (by have := HK.out.1; have := HK.out.2.1; have := HF.out.2.1; have := HF.out.1; omega) (by have := HF.out.1; omega) (by have := HK.out.2.2.1.1; omega) (by have := HK.out.2.2.1.2.1; omega) HK.out.2.2.2.1.size.2 (by have := HK.out.2.2.1.2.2; omega) (fun _ => HK.out.2.2.2.2)).mono ?_
        rintro e w3 ⟨rfl, ⟨g2, hA2⟩, hb3⟩
        have hA3 := hA2.mono (q' := sumA X (k + 1) + (k + 1)) (k' := k + 1) (by have := HK.out.1; omega) (by omega)
        have H3 := Lib.hid (And.intro hA3 (hI.out.2.trans hb3))
        clear hA2 hA3 hb3
        go_wp2_with fail
        refine (same_any H3.out.1 (by have := HK.out.2.1; have := HF.out.2.1; have := HF.out.1; omega) (by have := HF.out.1; omega)).mono ?_
        rintro e w4 ⟨rfl, hb4⟩
        have H4 := Lib.hid (And.intro (H3.out.1.later hb4) (H3.out.2.trans (hb4.mono H3.out.1.hb)))
        clear hb4
        go_wp2_with fail
        go_roundw
        case rel => exact ⟨k + 1, by omega, by go_num, Lib.hid ⟨⟨_, H4.out.1⟩, H4.out.2⟩⟩
        case measure => simp [intOf]; omega
      · obtain rfl : k = n := by omega
        obtain ⟨g, hA⟩ := hI.out.1
        have HQ : Hid (sumA X k + k ≤ 4294967296 ∧ k ≤ 100000) := Lib.hid (by have := HF.out.2.1; have := HF.out.1; omega)
        obtain ⟨q, hqe⟩ : ∃ q, q = sumA X k + k := ⟨_, rfl⟩
        rw [← hqe] at hA HQ
        have HA := Lib.hid hA
        clear hA hqe
        go_wp2_with fail
        refine (@rNames_S ⟨none⟩ r w.heap.size q k g wr HA.out.rs (HA.out.rin HQ.out.1 HQ.out.2)).mono ?_
        rintro e w5 ⟨v, rfl, hv, hb5⟩
        obtain ⟨va, vc, rfl, hvt⟩ := hv.texts
        have hvl : (g.R.map (·.1)).length ≤ 16 := by rw [List.length_map]; exact (HA.out.rin HQ.out.1 HQ.out.2).few
        obtain ⟨L, hL⟩ : ∃ L, L = g.R.map (·.1) := ⟨_, rfl⟩
        rw [← hL] at hvt hvl hv ⊢
        obtain ⟨m, hm⟩ : ∃ m, m = L.length := ⟨_, rfl⟩
        rw [← hm] at hvt hvl hv ⊢
        have H5 := Lib.hid (And.intro (HA.out.later hb5) (And.intro (hI.out.2.trans (hb5.mono HA.out.hb)) (And.intro hv hvt)))
        have hm0 : (0 : Int) ≤ (m : Int) := by omega
        clear hv hb5 hvt hL hm
        go_wp2_with fail
        go_loopw [7] (fun i wr => ∃ j : Nat, j ≤ m ∧ i = .int .i64 j ∧ Hid ((∃ g, ActAt wr d mb r w.heap.size q k g) ∧ Below w.heap.size w wr ∧ IsTexts wr va m vc L)) (fun i _ => m - (intOf i).toNat)
        case atStart => exact ⟨0, by omega, rfl, Lib.hid ⟨⟨_, H5.out.1⟩, H5.out.2.1, H5.out.2.2.2⟩⟩
        case round =>
          obtain ⟨j, hj, rfl, hJ⟩ := hrel
          by_cases hjt : j < m
          · have hj0 : (0 : Int) ≤ (j : Int) := by omega
            have hj1 : (j : Int) < (m : Int) := by omega
            obtain ⟨b, off, rfl, hcs⟩ := hJ.out.2.2.2.2.2 (by omega)
            have hc := hcs j hjt
            obtain ⟨s, hs⟩ : ∃ s, s = L.getD j ByteArray.empty := ⟨_, rfl⟩
            obtain ⟨g9, hA9⟩ := hJ.out.1
            have HA9 := Lib.hid hA9
            rw [← hs] at hc
            clear hcs hs hA9
            go_wp2_with fail
            refine (act_read2 (x := ⟨9, 0, s, ByteArray.empty, none, 0, 0, [], none, 0, 0, []⟩) rfl HA9.out HQ.out.1 HQ.out.2).mono ?_
            rintro e w6 ⟨⟨rfl, ⟨g2, hA2⟩, hb6⟩, hb7⟩
            have H6 := Lib.hid (And.intro hA2 (And.intro (hJ.out.2.1.trans hb6) (hJ.out.2.2.later hb7)))
            clear hA2 hb6 hb7
            go_wp2_with fail
            go_roundw
            case rel => exact ⟨j + 1, by omega, by go_num, Lib.hid ⟨⟨_, H6.out.1⟩, H6.out.2.1, H6.out.2.2⟩⟩
            case measure => simp [intOf]; omega
          · obtain rfl : j = m := by omega
            have HW := Lib.hid hJ.out.2.1
            clear hJ
            go_wp2_with fail
            refine (awake_any _).mono ?_
            rintro e w8 ⟨rfl, hb8⟩
            have H8 := Lib.hid (HW.out.trans (hb8.mono HW.out.size))
            clear hb8
            go_wp2_with fail
            go_ret
            exact ⟨rfl, H8.out⟩
end Go.Proofs.Ytmpjjkfbojhfoaa
