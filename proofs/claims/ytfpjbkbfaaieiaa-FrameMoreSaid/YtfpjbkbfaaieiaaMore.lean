/- apportionlaw06.FrameMore -/
import Derived.Test.YtfpjbkbfaaieiaaCut
namespace Go.Proofs.Ytfpjbkbfaaieiaa
open Go.RowKit
theorem scan_end_bound (b : List UInt8) : (Fr.scanF b).2.1 ≤ b.length := (Fr.scan_more _ b [] (Nat.lt_succ_self _)).1
theorem scan_list_bound (b : List UInt8) : (Fr.scanF b).1.length ≤ b.length := by
  obtain ⟨h1, _, _, _, _, h6, _⟩ := Fr.scan_more _ b [] (Nat.lt_succ_self _)
  have h7 : (Fr.putAll (Fr.scanF b).1).length = (Fr.scanF b).2.1 := by rw [h6, List.length_take]; omega
  have h8 : ∀ L : List (List UInt8), L.length ≤ (Fr.putAll L).length := by
    intro L
    induction L with
    | nil => simp
    | cons a L ih => 
      have : Fr.putAll (a :: L) = Fr.putF a ++ Fr.putAll L := rfl
      rw [this, List.length_append, Fr.putF_length, List.length_cons]
      omega
  have := h8 (Fr.scanF b).1
  omega
set_option maxRecDepth 100000 in
set_option maxHeartbeats 4000000 in
theorem FrameMore_any (w : World) (a0 : Option Addr) (n0 c0 : Nat) (b : List UInt8) (h0 : IsBytes w a0 n0 c0 b) (a1 : Option Addr) (n1 c1 : Nat) (m : List UInt8) (h1 : IsBytes w a1 n1 c1 m) :
    Calls Try.prog 9 #[.slice a0 n0 c0, .slice a1 n1 c1] w fun e w' => e = .returned (.bool true) ∧ Below w.heap.size w w' := by
  have HB := Lib.hid h0
  have HM := Lib.hid h1
  have hl0 := h0.1
  have hl1 := h1.1
  clear h0 h1
  by_cases hbig : n0 ≤ 5000 ∧ n1 ≤ 5000
  case neg =>
    have HL := Lib.hid hl0
    have HL1 := Lib.hid hl1
    clear hl0 hl1
    by_cases hb0 : n0 ≤ 5000
    · have hb1 : (5000 : Int) < (n1 : Int) := by omega
      have hb0' : (n0 : Int) ≤ 5000 := by omega
      clear hbig
      go_enter Try.func9, Try.ntmps9
      go_wp2_with fail
      refine (awake_any w).mono ?_
      rintro e w1 ⟨rfl, hb⟩
      go_wp2_with fail
      go_ret
      exact ⟨rfl, hb⟩
    · have hb1 : (5000 : Int) < (n0 : Int) := by omega
      clear hbig
      go_enter Try.func9, Try.ntmps9
      go_wp2_with fail
      refine (awake_any w).mono ?_
      rintro e w1 ⟨rfl, hb⟩
      go_wp2_with fail
      go_ret
      exact ⟨rfl, hb⟩
  obtain ⟨hb0, hb1⟩ := hbig
  have hb0' : (n0 : Int) ≤ 5000 := by omega
  have hb1' : (n1 : Int) ≤ 5000 := by omega
  obtain ⟨x1, x2, ⟨t, x3⟩, x4, x5, x6, x7⟩ := Fr.scan_more _ b m (Nat.lt_succ_self _)
  have hxl := scan_list_bound b
  have hyl := scan_end_bound (b ++ m)
  rw [List.length_append] at hyl
  obtain ⟨L, hLd⟩ : ∃ L, L = (Fr.scanF b).1 := ⟨_, rfl⟩
  obtain ⟨n, hnd⟩ : ∃ n, n = (Fr.scanF b).2.1 := ⟨_, rfl⟩
  obtain ⟨r, hrd⟩ : ∃ n, n = (Fr.scanF b).2.2 := ⟨_, rfl⟩
  obtain ⟨L2, hLd2⟩ : ∃ L, L = (Fr.scanF (b ++ m)).1 := ⟨_, rfl⟩
  obtain ⟨n2, hnd2⟩ : ∃ n, n = (Fr.scanF (b ++ m)).2.1 := ⟨_, rfl⟩
  obtain ⟨r2, hrd2⟩ : ∃ n, n = (Fr.scanF (b ++ m)).2.2 := ⟨_, rfl⟩
  rw [← hLd, ← hnd] at x6
  rw [← hLd] at x7 hxl
  rw [← hnd] at x1
  rw [← hnd, ← hnd2] at x2
  rw [← hnd2] at hyl
  rw [← hLd, ← hLd2] at x3
  rw [← hrd, ← hrd2, ← hnd, ← hnd2] at x4
  rw [← hrd, ← hnd] at x5
  have HLD := Lib.hid hLd
  have HND := Lib.hid hnd
  have HRD := Lib.hid hrd
  have HLD2 := Lib.hid hLd2
  have HND2 := Lib.hid hnd2
  have HRD2 := Lib.hid hrd2
  have X3 := Lib.hid x3
  have X4 := Lib.hid x4
  have X5 := Lib.hid x5
  have X6 := Lib.hid x6
  have X7 := Lib.hid x7
  have HL0 := Lib.hid hl0
  have HL1 := Lib.hid hl1
  have h6 : L.length ≤ L2.length := by rw [x3, List.length_append]; omega
  rw [hl0] at x1 hxl hyl
  rw [hl1] at hyl
  clear hLd hnd hrd hLd2 hnd2 hrd2 x3 x4 x5 x6 x7 hl0 hl1
  go_enter Try.func9, Try.ntmps9
  go_wp2_with fail
  refine (awake_any w).mono ?_
  rintro e w1 ⟨rfl, hb⟩
  have HB1 := Lib.hid hb
  clear hb
  go_wp2_with fail
  refine (Scan_any _ _ _ b w1 (HB.out.later HB1.out) (by omega)).mono ?_
  rintro e w2 ⟨v2, rfl, hl2, hb2⟩
  rw [← HLD.out] at hl2
  rw [← HND.out, ← HRD.out]
  obtain ⟨ax, cx, rfl, hrx⟩ := hl2.reads
  have HB2 := Lib.hid (HB1.out.trans (hb2.mono HB1.out.size))
  have HX2 := Lib.hid hrx
  clear hl2 hb2 hrx
  go_wp2_with fail
  refine (CopyBytes_any _ _ _ b w2 (HB.out.later HB2.out) (by omega)).mono ?_
  rintro e w3 ⟨v3, rfl, ho3, hb3⟩
  have HB3 := Lib.hid (HB2.out.trans (hb3.mono HB2.out.size))
  have HX3 := Lib.hid (HX2.out.later hb3)
  have HO3 := Lib.hid ho3
  have HB23 := Lib.hid hb3
  clear ho3 hb3
  go_wp2_with (at_builtin; refine wpList_append_bytes rfl _ _ rfl w2.heap.size v3 b rfl HO3.out _ _ _ m rfl (HM.out.later HB3.out) (by have := HL0.out; omega) HB23.out.size ?_; intro v4 w4 hown4 hg4)
  have hb24 : Below w2.heap.size w2 w4 := HB23.out.grown hg4 HB23.out.size (fun k hk => (HO3.out.1.lt k hk).1)
  obtain ⟨ao4, cap4, rfl, hs4, -⟩ := hown4.bytes
  refine (Scan_any _ _ _ _ _ hs4 (by have := HL0.out; have := HL1.out; simp; omega)).mono ?_
  rintro e w5 ⟨v5, rfl, hl5, hb5⟩
  rw [← HLD2.out] at hl5
  rw [← HND2.out, ← HRD2.out]
  obtain ⟨ay, cy, rfl, hry⟩ := hl5.reads
  have hb25 := hb24.trans (hb5.mono hb24.size)
  have HB5 := Lib.hid (HB2.out.trans (hb25.mono HB2.out.size))
  have HX5 := Lib.hid (HX2.out.later hb25)
  have HY5 := Lib.hid hry
  obtain ⟨hsl, hyc⟩ := slice_lists hry L.length h6
  rw [X3.out, List.take_left] at hyc
  have HYC := Lib.hid hyc
  clear hb24 hb25 hb5 hl5 hry hg4 hown4 hs4 HB3 HX3 HO3 HB23 hyc
  have hxl' : (0 : Int) ≤ (L.length : Int) := by omega
  have hn0 : (0 : Int) ≤ (n : Int) := by omega
  have hx1' : (n : Int) ≤ (n0 : Int) := by omega
  have hx2' : (n : Int) ≤ (n2 : Int) := by omega
  have h6' : (L.length : Int) ≤ (L2.length : Int) := by omega
  have hz1 : ¬ n2 < n := by omega
  have hz2 : ¬ L2.length < L.length := by omega
  have hz0 : ¬ (n : Int) < 0 := by omega
  have hcase : (r = 2 ∧ r2 = 2 ∧ n2 = n ∧ ¬ n = n0) ∨ (r = 0 ∧ n = n0) ∨ (¬ r = 2 ∧ ¬ r = 0 ∧ ¬ n = n0) := by
    by_cases h2 : r = 2
    · exact .inl ⟨h2, (X4.out h2).1, (X4.out h2).2, fun h => by have := X5.out.2 (by rw [h, HL0.out]); omega⟩
    · by_cases h3 : r = 0
      · exact .inr (.inl ⟨h3, by rw [X5.out.1 h3, HL0.out]⟩)
      · exact .inr (.inr ⟨h2, h3, fun h => h3 (X5.out.2 (by rw [h, HL0.out]))⟩)
  rcases hcase with ⟨rfl, rfl, rfl, hne⟩ | ⟨rfl, rfl⟩ | ⟨hr2, hr0, hne⟩
  · have hne' : ((n2 : Int) == (n0 : Int)) = false := by simp; omega
    have hz3 : ¬ n0 < n2 := by omega
    go_wp2_with fail
    refine (SameLists_any _ _ _ _ _ _ L L _ HX5.out HYC.out).mono ?_
    rintro e w6 ⟨rfl, q, hw6⟩
    rw [show (L == L) = true by simp]
    have hb6 : Below w5.heap.size w5 w6 := by rw [hw6]; exact below_drewN (Below.refl _ _) q
    have HB6 := Lib.hid (HB5.out.trans (hb6.mono HB5.out.size))
    have HX6 := Lib.hid (HX5.out.later hb6)
    clear hw6 hb6 hsl
    go_wp2_with fail
    go_loopw [12, 13, 14, 15] (fun v i _ _ wr => ∃ k : Nat, k ≤ L.length ∧ i = .int .i64 k ∧ Hid (OwnB wr w6.heap.size v (Fr.putAll (L.take k))) ∧ Hid (Below w6.heap.size w6 wr)) (fun _ i _ _ _ => L.length - (intOf i).toNat)
    case atStart => exact ⟨0, by omega, rfl, OwnB.nil _ _, Below.refl _ _⟩
    case round =>
      obtain ⟨k, hk, rfl, hown, hbr⟩ := hrel
      have hxr := HX6.out.later hbr.out
      by_cases hlt : k < L.length
      · obtain ⟨b1, off1, aoi, ni, capi, rfl, hc, hbs⟩ := hxr.2.2.2.2 k hlt
        have hbsl := hbs.1
        have hmem : L.getD k [] ∈ L := by
          rw [List.getD_eq_getElem?_getD, List.getElem?_eq_getElem hlt]
          exact List.getElem_mem _
        have hle := X7.out _ hmem
        obtain ⟨c, hcd⟩ : ∃ c, c = L.getD k [] := ⟨_, rfl⟩
        have hsu := putAll_succ L k hlt
        have hlen := putAll_take_le L (k + 1)
        have hput : (Fr.putAll L).length ≤ 5000 := by rw [X6.out, List.length_take]; omega
        rw [← hcd] at hbs hbsl hle hsu
        have hal : (Fr.putAll (L.take k)).length + (Fr.putF c).length ≤ 5000 := by rw [← List.length_append, ← hsu]; omega
        have HSU := Lib.hid hsu
        have HAL := Lib.hid hal
        have HBS := Lib.hid hbs
        have hni : ni ≤ 65536 := by omega
        have hi0 : (0 : Int) ≤ (k : Int) := by omega
        have hi1 : (k : Int) < (L.length : Int) := by omega
        clear hbs hsu hal hlen hput hmem hcd hle hxr hbsl
        go_wp2_with fail
        refine (Put_any _ _ _ c wr HBS.out hni).mono ?_
        rintro e w7 ⟨v7, rfl, hown7, hb7⟩
        obtain ⟨ao7, cap7, rfl, hs7, -⟩ := hown7.bytes
        have HO7 := Lib.hid (hown.out.later hb7)
        have HS7 := Lib.hid hs7
        have HB7 := Lib.hid (hbr.out.trans (hb7.mono hbr.out.size))
        clear hown7 hb7 hs7
        go_wp2_with (at_builtin; refine wpList_append_bytes rfl _ _ rfl w6.heap.size _ _ rfl HO7.out _ _ _ _ rfl HS7.out (by have := HAL.out; omega) HB7.out.size ?_; intro v8 w8 hown8 hg8)
        have hb8 : Below w6.heap.size w6 w8 := HB7.out.grown hg8 HB7.out.size (fun k hk => (HO7.out.1.lt k hk).1)
        have HO8 := Lib.hid hown8
        have HB8 := Lib.hid hb8
        clear hown8 hb8 hg8
        go_wp2_with fail
        go_roundw
        case rel => exact ⟨k + 1, by omega, by go_num, by rw [HSU.out]; exact HO8, HB8⟩
        case measure => simp [intOf]; omega
      · obtain rfl : k = L.length := by omega
        rw [List.take_length] at hown
        obtain ⟨ao9, cap9, hv9, hs9, -⟩ := hown.out.bytes
        have hlen9 : (Fr.putAll L).length = n2 := by rw [X6.out, List.length_take, HL0.out]; omega
        rw [hlen9] at hv9 hs9
        subst hv9
        have hb9 := HB6.out.trans (hbr.out.mono HB6.out.size)
        obtain ⟨hsl9, hc9⟩ := slice_to (HB.out.later hb9) n2 (by omega)
        rw [X6.out] at hs9
        have HS9 := Lib.hid hs9
        have HC9 := Lib.hid hc9
        have HB9 := Lib.hid hb9
        clear hs9 hc9 hb9
        go_wp2_with fail
        refine (SameBytes_any _ _ _ _ _ _ _ _ _ HS9.out HC9.out).mono ?_
        rintro e w10 ⟨rfl, rfl⟩
        rw [show (b.take n2 == b.take n2) = true by simp]
        go_wp2_with fail
        go_ret
        exact ⟨rfl, HB9.out⟩
  · go_wp2_with fail
    refine (SameLists_any _ _ _ _ _ _ L L _ HX5.out HYC.out).mono ?_
    rintro e w6 ⟨rfl, q, hw6⟩
    rw [show (L == L) = true by simp]
    have hb6 : Below w5.heap.size w5 w6 := by rw [hw6]; exact below_drewN (Below.refl _ _) q
    have HB6 := Lib.hid (HB5.out.trans (hb6.mono HB5.out.size))
    have HX6 := Lib.hid (HX5.out.later hb6)
    clear hw6 hb6 hsl
    go_wp2_with fail
    go_loopw [12, 13, 14, 15] (fun v i _ _ wr => ∃ k : Nat, k ≤ L.length ∧ i = .int .i64 k ∧ Hid (OwnB wr w6.heap.size v (Fr.putAll (L.take k))) ∧ Hid (Below w6.heap.size w6 wr)) (fun _ i _ _ _ => L.length - (intOf i).toNat)
    case atStart => exact ⟨0, by omega, rfl, OwnB.nil _ _, Below.refl _ _⟩
    case round =>
      obtain ⟨k, hk, rfl, hown, hbr⟩ := hrel
      have hxr := HX6.out.later hbr.out
      by_cases hlt : k < L.length
      · obtain ⟨b1, off1, aoi, ni, capi, rfl, hc, hbs⟩ := hxr.2.2.2.2 k hlt
        have hbsl := hbs.1
        have hmem : L.getD k [] ∈ L := by
          rw [List.getD_eq_getElem?_getD, List.getElem?_eq_getElem hlt]
          exact List.getElem_mem _
        have hle := X7.out _ hmem
        obtain ⟨c, hcd⟩ : ∃ c, c = L.getD k [] := ⟨_, rfl⟩
        have hsu := putAll_succ L k hlt
        have hlen := putAll_take_le L (k + 1)
        have hput : (Fr.putAll L).length ≤ 5000 := by rw [X6.out, List.length_take]; omega
        rw [← hcd] at hbs hbsl hle hsu
        have hal : (Fr.putAll (L.take k)).length + (Fr.putF c).length ≤ 5000 := by rw [← List.length_append, ← hsu]; omega
        have HSU := Lib.hid hsu
        have HAL := Lib.hid hal
        have HBS := Lib.hid hbs
        have hni : ni ≤ 65536 := by omega
        have hi0 : (0 : Int) ≤ (k : Int) := by omega
        have hi1 : (k : Int) < (L.length : Int) := by omega
        clear hbs hsu hal hlen hput hmem hcd hle hxr hbsl
        go_wp2_with fail
        refine (Put_any _ _ _ c wr HBS.out hni).mono ?_
        rintro e w7 ⟨v7, rfl, hown7, hb7⟩
        obtain ⟨ao7, cap7, rfl, hs7, -⟩ := hown7.bytes
        have HO7 := Lib.hid (hown.out.later hb7)
        have HS7 := Lib.hid hs7
        have HB7 := Lib.hid (hbr.out.trans (hb7.mono hbr.out.size))
        clear hown7 hb7 hs7
        go_wp2_with (at_builtin; refine wpList_append_bytes rfl _ _ rfl w6.heap.size _ _ rfl HO7.out _ _ _ _ rfl HS7.out (by have := HAL.out; omega) HB7.out.size ?_; intro v8 w8 hown8 hg8)
        have hb8 : Below w6.heap.size w6 w8 := HB7.out.grown hg8 HB7.out.size (fun k hk => (HO7.out.1.lt k hk).1)
        have HO8 := Lib.hid hown8
        have HB8 := Lib.hid hb8
        clear hown8 hb8 hg8
        go_wp2_with fail
        go_roundw
        case rel => exact ⟨k + 1, by omega, by go_num, by rw [HSU.out]; exact HO8, HB8⟩
        case measure => simp [intOf]; omega
      · obtain rfl : k = L.length := by omega
        rw [List.take_length] at hown
        obtain ⟨ao9, cap9, hv9, hs9, -⟩ := hown.out.bytes
        have hlen9 : (Fr.putAll L).length = n := by rw [X6.out, List.length_take, HL0.out]; omega
        rw [hlen9] at hv9 hs9
        subst hv9
        have hb9 := HB6.out.trans (hbr.out.mono HB6.out.size)
        obtain ⟨hsl9, hc9⟩ := slice_to (HB.out.later hb9) n (by omega)
        rw [X6.out] at hs9
        have HS9 := Lib.hid hs9
        have HC9 := Lib.hid hc9
        have HB9 := Lib.hid hb9
        clear hs9 hc9 hb9
        go_wp2_with fail
        refine (SameBytes_any _ _ _ _ _ _ _ _ _ HS9.out HC9.out).mono ?_
        rintro e w10 ⟨rfl, rfl⟩
        rw [show (b.take n == b.take n) = true by simp]
        go_wp2_with fail
        go_ret
        exact ⟨rfl, HB9.out⟩
  · have hne' : ((n : Int) == (n0 : Int)) = false := by simp; omega
    have hz3 : ¬ n0 < n := by omega
    have hr2' : ¬ (r : Int) = 2 := by omega
    have hr0' : ¬ (r : Int) = 0 := by omega
    go_wp2_with fail
    refine (SameLists_any _ _ _ _ _ _ L L _ HX5.out HYC.out).mono ?_
    rintro e w6 ⟨rfl, q, hw6⟩
    rw [show (L == L) = true by simp]
    have hb6 : Below w5.heap.size w5 w6 := by rw [hw6]; exact below_drewN (Below.refl _ _) q
    have HB6 := Lib.hid (HB5.out.trans (hb6.mono HB5.out.size))
    have HX6 := Lib.hid (HX5.out.later hb6)
    clear hw6 hb6 hsl
    go_wp2_with fail
    go_loopw [12, 13, 14, 15] (fun v i _ _ wr => ∃ k : Nat, k ≤ L.length ∧ i = .int .i64 k ∧ Hid (OwnB wr w6.heap.size v (Fr.putAll (L.take k))) ∧ Hid (Below w6.heap.size w6 wr)) (fun _ i _ _ _ => L.length - (intOf i).toNat)
    case atStart => exact ⟨0, by omega, rfl, OwnB.nil _ _, Below.refl _ _⟩
    case round =>
      obtain ⟨k, hk, rfl, hown, hbr⟩ := hrel
      have hxr := HX6.out.later hbr.out
      by_cases hlt : k < L.length
      · obtain ⟨b1, off1, aoi, ni, capi, rfl, hc, hbs⟩ := hxr.2.2.2.2 k hlt
        have hbsl := hbs.1
        have hmem : L.getD k [] ∈ L := by
          rw [List.getD_eq_getElem?_getD, List.getElem?_eq_getElem hlt]
          exact List.getElem_mem _
        have hle := X7.out _ hmem
        obtain ⟨c, hcd⟩ : ∃ c, c = L.getD k [] := ⟨_, rfl⟩
        have hsu := putAll_succ L k hlt
        have hlen := putAll_take_le L (k + 1)
        have hput : (Fr.putAll L).length ≤ 5000 := by rw [X6.out, List.length_take]; omega
        rw [← hcd] at hbs hbsl hle hsu
        have hal : (Fr.putAll (L.take k)).length + (Fr.putF c).length ≤ 5000 := by rw [← List.length_append, ← hsu]; omega
        have HSU := Lib.hid hsu
        have HAL := Lib.hid hal
        have HBS := Lib.hid hbs
        have hni : ni ≤ 65536 := by omega
        have hi0 : (0 : Int) ≤ (k : Int) := by omega
        have hi1 : (k : Int) < (L.length : Int) := by omega
        clear hbs hsu hal hlen hput hmem hcd hle hxr hbsl
        go_wp2_with fail
        refine (Put_any _ _ _ c wr HBS.out hni).mono ?_
        rintro e w7 ⟨v7, rfl, hown7, hb7⟩
        obtain ⟨ao7, cap7, rfl, hs7, -⟩ := hown7.bytes
        have HO7 := Lib.hid (hown.out.later hb7)
        have HS7 := Lib.hid hs7
        have HB7 := Lib.hid (hbr.out.trans (hb7.mono hbr.out.size))
        clear hown7 hb7 hs7
        go_wp2_with (at_builtin; refine wpList_append_bytes rfl _ _ rfl w6.heap.size _ _ rfl HO7.out _ _ _ _ rfl HS7.out (by have := HAL.out; omega) HB7.out.size ?_; intro v8 w8 hown8 hg8)
        have hb8 : Below w6.heap.size w6 w8 := HB7.out.grown hg8 HB7.out.size (fun k hk => (HO7.out.1.lt k hk).1)
        have HO8 := Lib.hid hown8
        have HB8 := Lib.hid hb8
        clear hown8 hb8 hg8
        go_wp2_with fail
        go_roundw
        case rel => exact ⟨k + 1, by omega, by go_num, by rw [HSU.out]; exact HO8, HB8⟩
        case measure => simp [intOf]; omega
      · obtain rfl : k = L.length := by omega
        rw [List.take_length] at hown
        obtain ⟨ao9, cap9, hv9, hs9, -⟩ := hown.out.bytes
        have hlen9 : (Fr.putAll L).length = n := by rw [X6.out, List.length_take, HL0.out]; omega
        rw [hlen9] at hv9 hs9
        subst hv9
        have hb9 := HB6.out.trans (hbr.out.mono HB6.out.size)
        obtain ⟨hsl9, hc9⟩ := slice_to (HB.out.later hb9) n (by omega)
        rw [X6.out] at hs9
        have HS9 := Lib.hid hs9
        have HC9 := Lib.hid hc9
        have HB9 := Lib.hid hb9
        clear hs9 hc9 hb9
        go_wp2_with fail
        refine (SameBytes_any _ _ _ _ _ _ _ _ _ HS9.out HC9.out).mono ?_
        rintro e w10 ⟨rfl, rfl⟩
        rw [show (b.take n == b.take n) = true by simp]
        go_wp2_with fail
        go_ret
        exact ⟨rfl, HB9.out⟩
end Go.Proofs.Ytfpjbkbfaaieiaa
