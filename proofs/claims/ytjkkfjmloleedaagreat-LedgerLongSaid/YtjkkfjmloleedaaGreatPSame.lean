/- layer 28's statements: act, any call; same -/
import Derived.Test.YtjkkfjmloleedaaGreatPOpens
import Derived.Test.YtjkkfjmloleedaaGreatDG
set_option linter.unusedSimpArgs false
set_option linter.unusedVariables false
namespace Go.Proofs.YtjkkfjmloleedaaGreat
open Go.RowKit
set_option linter.unusedSectionVars false
section
variable {p d mb r base q k : Nat} {g : Sig} {Lo : Option LSig} {lv mv : Value} {w : World} {x : ActL}
theorem PairAt.mono {q' k' : Nat} (h : PairAt w p d mb r base q k g Lo lv mv) (hq : q ≤ q') (hk : k ≤ k') : PairAt w p d mb r base q' k' g Lo lv mv :=
  ⟨h.row, h.hp, h.ds, h.rs, h.lim.mono hq hk, h.hb, led_moved h.led (fun _ _ _ _ hj _ => hj) hq⟩
theorem PActR.mono {q' k' : Nat} {e : Ending} {w' : World} (h : PActR p d mb r base q k w e w') (hq : q ≤ q') (hk : k ≤ k') : PActR p d mb r base q' k' w e w' := by
  obtain ⟨h1, ⟨g', Lo', lv', mv', h2⟩, h3⟩ := h
  exact ⟨h1, ⟨g', Lo', lv', mv', h2.mono hq hk⟩, h3⟩
theorem opens_any (nm : ByteArray) (hss : nm.size ≤ 1099511627776) (h : PairAt w p d mb r base q k g Lo lv mv) (hq : q + 2 ≤ 4294967296) (hk9 : k + 3 ≤ 100000) :
    Calls Tryz.prog 10 #[.pointer (some ⟨p, 0, none⟩), .string nm] w fun e w' => PActR p d mb r base (q + 1) (k + 2) w e w' := by
  cases hLo : (openG nm g).2.1 with
  | none => exact opens_none nm hss h hq hk9 hLo
  | some L => exact opens_some nm hss h hq hk9 hLo
set_option maxRecDepth 100000 in
theorem pact_open (hk : x.kind = 4) (h : PairAt w p d mb r base q k g Lo lv mv) (hq : q + 2 ≤ 4294967296) (hk9 : k + 3 ≤ 100000) (ht : x.nm.size ≤ 1099511627776) :
    Calls Tryz.prog 7 #[.pointer (some ⟨p, 0, none⟩), .agg x.row] w fun e w' => PActR p d mb r base (q + 1) (k + 2) w e w' := by
  obtain ⟨xk, xs, xe, nm, ba, bn, bc, B⟩ := x
  dsimp only at hk ht ⊢
  obtain rfl : xk = 4 := hk
  obtain ⟨xe3, hwe⟩ : ∃ y, IntKind.i64.wrap (xe + 3) = y := ⟨_, rfl⟩
  change Calls Tryz.prog 7 #[.pointer (some ⟨p, 0, none⟩), .agg #[.int .i64 4, .int .i64 xs, .int .i64 xe, .string nm, .slice ba bn bc]] w _
  have hb1 : Below w.heap.size w (w.alloc (.cells #[.int .i64 4, .int .i64 xs, .int .i64 xe, .string nm, .slice ba bn bc] 38)) := (Below.refl _ _).alloc (Nat.le_refl _) _
  have hbx := heap_alloc_new w (.cells #[.int .i64 4, .int .i64 xs, .int .i64 xe, .string nm, .slice ba bn bc] 38)
  generalize hW1 : w.alloc (.cells #[.int .i64 4, .int .i64 xs, .int .i64 xe, .string nm, .slice ba bn bc] 38) = W1 at hb1 hbx
  have hb2 : Below W1.heap.size W1 (W1.alloc (.cells #[.int .i64 xe, .int .i64 xe3, .int .i64 xe, .int .i64 1] 3)) := (Below.refl _ _).alloc (Nat.le_refl _) _
  generalize hW : W1.alloc (.cells #[.int .i64 xe, .int .i64 xe3, .int .i64 xe, .int .i64 1] 3) = W at hb2
  have hbw : Below w.heap.size w W := hb1.trans (hb2.mono hb1.size)
  have hbxW := (hb2.block _ (heap_lt hbx)).trans hbx
  have c2 : W1.cell? ⟨w.heap.size, 2, none⟩ = some (.int .i64 xe) := by simp only [World.cell?, hbx]; rfl
  have d0 : W.cell? ⟨w.heap.size, 0, none⟩ = some (.int .i64 4) := by simp only [World.cell?, hbxW]; rfl
  have d3 : W.cell? ⟨w.heap.size, 3, none⟩ = some (.string nm) := by simp only [World.cell?, hbxW]; rfl
  have HO := Lib.hid (opens_any nm ht (h.later hbw) hq hk9)
  have HB := Lib.hid (hbw.mono h.hb)
  clear h hq hk9 hbxW hb1 hb2 hbx hbw ht
  go_enter Tryz.func7, Tryz.ntmps7
  go_wp2_with fail
  refine HO.out.mono ?_
  rintro e w' ⟨rfl, h1, h2⟩
  have H1 := Lib.hid (And.intro h1 (HB.out.trans h2))
  clear h1 h2
  go_wp2_with fail
  go_ret
  exact ⟨rfl, H1.out⟩
theorem pact_any (h : PairAt w p d mb r base q k g Lo lv mv) (hq : q + x.bn + 13 ≤ 4294967296) (hk9 : k + 3 ≤ 100000) (hnm : x.nm.size ≤ 1099511627776) (hsz : I64 x.size) (hkp : I64 x.keep) (hx : ∀ w', Below base w w' → IsBytes w' x.ba x.bn x.bc x.B) :
    Calls Tryz.prog 7 #[.pointer (some ⟨p, 0, none⟩), .agg x.row] w fun e w' => PActR p d mb r base (q + x.bn + 13) (k + 2) w e w' := by
  by_cases h4 : x.kind = 4
  · exact (pact_open h4 h (by omega) (by omega) hnm).mono fun e w' hr => hr.mono (by omega) (by omega)
  by_cases h5 : x.kind = 5
  · exact (pact_fuse h5 h (by omega) (by omega) hsz.2).mono fun e w' hr => hr.mono (by omega) (by omega)
  by_cases h6 : x.kind = 6
  · exact (pact_crash h6 h (by omega) (by omega) hkp).mono fun e w' hr => hr.mono (by omega) (by omega)
  by_cases h7 : x.kind = 7
  · exact (pact_app h7 h (by omega) (by omega) ⟨hnm, fun w' hb => ⟨hx w' hb, (hx w' hb).1⟩⟩).mono fun e w' hr => hr.mono (by omega) (by omega)
  by_cases h8 : x.kind = 8
  · exact (pact_cut h8 h (by omega) (by omega)).mono fun e w' hr => hr.mono (by omega) (by omega)
  by_cases h9 : x.kind = 9
  · exact (pact_sync h9 h (by omega) (by omega)).mono fun e w' hr => hr.mono (by omega) (by omega)
  by_cases h10 : x.kind = 10
  · exact (pact_rem h10 h (by omega) (by omega)).mono fun e w' hr => hr.mono (by omega) (by omega)
  by_cases hel : x.kind < 0 ∨ 10 < x.kind
  · exact (pact_else hel h).mono fun e w' hr => hr.mono (by omega) (by omega)
  rcases h.led with ⟨rfl, rfl, rfl⟩ | ⟨L, l, m, rfl, rfl, rfl, _⟩
  · by_cases h0 : x.kind = 0
    · exact (pact_none0 h0 h (by omega) trivial).mono fun e w' hr => hr.mono (by omega) (by omega)
    by_cases h1 : x.kind = 1
    · exact (pact_none1 h1 h (by omega) trivial).mono fun e w' hr => hr.mono (by omega) (by omega)
    by_cases h2 : x.kind = 2
    · exact (pact_none2 h2 h (by omega) trivial).mono fun e w' hr => hr.mono (by omega) (by omega)
    · exact (pact_none3 (by omega) h (by omega) trivial).mono fun e w' hr => hr.mono (by omega) (by omega)
  · by_cases h0 : x.kind = 0
    · exact pact_add0 h0 h (by omega) (by omega) (fun w' hb => hx w' hb.1)
    by_cases h1 : x.kind = 1
    · exact pact_add1 h1 h (by omega) (by omega) (fun w' hb => hx w' hb.1)
    by_cases h2 : x.kind = 2
    · exact pact_add2 h2 h (by omega) (by omega) (fun w' hb => hx w' hb.1)
    · exact pact_add3 (by omega) h (by omega) (by omega) (fun w' hb => hx w' hb.1)
theorem PairAt.rin (h : PairAt w p d mb r base q k g Lo lv mv) (hq : q ≤ 4294967296) (hk : k ≤ 100000) : RIn q k g := ⟨h.lim, hq, hk, h.fit.1, h.fit.2⟩
theorem steps_pair {w1 : World} (h : PairAt w p d mb r base q k g Lo lv mv) (hb : Below w.heap.size w w1) : Calls Tryz.prog 31 #[.pointer (some ⟨d, 0, none⟩)] w1 fun e w' => e = .returned (.int .i64 g.N) ∧ w1 = w' := by
  obtain ⟨M, C, fu, h1, h2, h3⟩ := (h.later hb).ds
  exact Steps_any d mb M _ fu g.out w1 (@DiskG.dm Z0 _ _ _ _ _ _ _ _ _ h1)
theorem up_pair {w1 : World} (h : PairAt w p d mb r base q k g Lo lv mv) (hb : Below w.heap.size w w1) : Calls Tryz.prog 32 #[.pointer (some ⟨d, 0, none⟩)] w1 fun e w' => e = .returned (.bool (!g.out)) ∧ w1 = w' := by
  obtain ⟨M, C, fu, h1, h2, h3⟩ := (h.later hb).ds
  exact Up_any d mb _ fu g.out w1 (@DiskG.dm Z0 _ _ _ _ _ _ _ _ _ h1).2.2.1
set_option maxRecDepth 100000 in
set_option maxHeartbeats 2000000 in
theorem psame_any (h : PairAt w p d mb r base q k g Lo lv mv) (hq : q ≤ 4294967296) (hk9 : k ≤ 100000) :
    Calls Tryz.prog 8 #[.pointer (some ⟨p, 0, none⟩)] w fun e w' => e = .returned (.bool true) ∧ Below w.heap.size w w' := by
  have HA := Lib.hid (And.intro h (h.rin hq hk9))
  obtain ⟨L, hL⟩ : ∃ L, L = g.R.map (·.1) := ⟨_, rfl⟩
  have HL := Lib.hid hL
  have hl16 : L.length ≤ 16 := by rw [hL, List.length_map]; exact (h.rin hq hk9).few
  obtain ⟨N, hN⟩ : ∃ N, N = g.N := ⟨_, rfl⟩
  obtain ⟨out, hout⟩ : ∃ o, o = g.out := ⟨_, rfl⟩
  have HN := Lib.hid (And.intro hN hout)
  have hNN : (N == N) = true := by simp
  have hNN2 : (N != N) = false := by simp
  have ho2 : (!out == out) = false := by cases out <;> rfl
  have ho3 : ((!out) == out) = false := by cases out <;> rfl
  have p1w := h.cells.2.1
  clear h hq hk9 hL hN hout
  go_enter Tryz.func8, Tryz.ntmps8
  go_wp2_with fail
  refine (@rNames_S Z0 r base q k g w HA.out.1.rs HA.out.2).mono ?_
  rintro e w1 ⟨v, rfl, hv, hb1⟩
  rw [← HL.out] at hv
  obtain ⟨va, vc, rfl, hvt⟩ := hv.texts
  have H1 := Lib.hid (And.intro hb1 (And.intro hvt (And.intro (HA.out.1.later hb1) (HA.out.1.later (hb1.trans (Below.refl _ w1).drew)))))
  clear hv hb1 hvt p1w
  have hrow : ∀ w', Below w1.heap.size w1 w' → w'.cell? ⟨r, 1, none⟩ = some (.int .i64 N) ∧ w'.cell? ⟨r, 4, none⟩ = some (.bool out) ∧ w'.cell? ⟨p, 0, none⟩ = some (.pointer (some ⟨d, 0, none⟩)) ∧ w'.cell? ⟨p, 1, none⟩ = some (.pointer (some ⟨r, 0, none⟩)) := fun w' hb => by
    obtain ⟨v, hr⟩ := RefAt.row (@RSig.later Z0 _ _ _ _ _ H1.out.2.2.1.rs hb)
    rw [HN.out.1, HN.out.2]
    exact ⟨hr.cells.2.1, hr.cells.2.2.2.2, (H1.out.2.2.1.later hb).cells.1, (H1.out.2.2.1.later hb).cells.2.1⟩
  have HR := Lib.hid hrow
  clear hrow
  go_wp2_with fail
  have p1 := (HR.out w1 (Below.refl _ _)).1
  have p4 := (HR.out w1 (Below.refl _ _)).2.1
  have pd := (HR.out w1 (Below.refl _ _)).2.2.1
  have pr := (HR.out w1 (Below.refl _ _)).2.2.2
  go_region_held3 (fun w' => w'.cell? ⟨r, 1, none⟩ = some (.int .i64 N) ∧ w'.cell? ⟨r, 4, none⟩ = some (.bool out) ∧ w'.cell? ⟨p, 0, none⟩ = some (.pointer (some ⟨d, 0, none⟩)) ∧ w'.cell? ⟨p, 1, none⟩ = some (.pointer (some ⟨r, 0, none⟩)))
    (first
      | (exact ⟨p1, p4, pd, pr⟩)
      | (go_split_ands; exact HR.out _ (by assumption)))
    (first
      | (go_at_call 30
         refine (@Names_S Z0 d mb base g _ H1.out.2.2.2.ds).mono ?_
         rintro e w2 ⟨v2, rfl, hv2, hb2⟩
         rw [← HL.out] at hv2
         obtain ⟨va2, vc2, rfl, hvt2⟩ := hv2.texts
         have hbb2 : Below w1.heap.size w1 w2 := (Below.refl w1.heap.size w1).drew.trans hb2)
      | (go_at_call 29
         refine (SameTexts_any _ _ _ _ _ _ L L _ hvt2 (H1.out.2.1.later hbb2)).mono ?_
         rintro e w3 ⟨rr, rfl, hrr, hb3⟩
         obtain rfl : rr = true := hrr.2 rfl
         have hbb3 : Below w1.heap.size w1 w3 := hbb2.trans (hb3.mono hbb2.size))
      | (go_at_call 31
         refine (steps_pair H1.out.2.2.1 hbb3).mono ?_
         rintro e w4 ⟨rfl, rfl⟩
         rw [← HN.out.1])
      | (go_at_call 32
         refine (up_pair H1.out.2.2.1 hbb3).mono ?_
         rintro e w5 ⟨rfl, rfl⟩
         rw [← HN.out.2]))
  all_goals
    have HW3 := Lib.hid hbb3
    clear hv2 hb2 hvt2 hbb2 hb3 hbb3 hrr
    obtain ⟨n, hn⟩ : ∃ n, n = L.length := ⟨_, rfl⟩
    have hn0 : (0 : Int) ≤ (n : Int) := by omega
    rw [← hn] at H1 hl16 ⊢
    have HNL := Lib.hid hn
    clear hn p1 p4 pd pr
    go_wp2_with fail
    go_loopw [4] (fun i wr => ∃ j : Nat, j ≤ n ∧ i = .int .i64 j ∧ Hid (Below w1.heap.size w1 wr)) (fun i _ => n - (intOf i).toNat)
    case atStart => exact ⟨0, by omega, rfl, HW3⟩
    case round =>
      obtain ⟨j, hj, rfl, hbr⟩ := hrel
      by_cases hlt : j < n
      · have hi0 : (0 : Int) ≤ (j : Int) := by omega
        have hi1 : (j : Int) < (n : Int) := by omega
        obtain ⟨b, off, rfl, hc⟩ := H1.out.2.1.2.2.2 (by omega)
        have hck0 := hc j hlt
        obtain ⟨s, hs⟩ : ∃ s, s = L.getD j ByteArray.empty := ⟨_, rfl⟩
        rw [← hs] at hck0
        have HCK : Hid (∀ w', Below w1.heap.size w1 w' → w'.cell? ⟨b, off + j, none⟩ = some (.string s) ∧ w'.cell? ⟨p, 0, none⟩ = some (.pointer (some ⟨d, 0, none⟩)) ∧ w'.cell? ⟨p, 1, none⟩ = some (.pointer (some ⟨r, 0, none⟩))) := Lib.hid (fun w' hb => ⟨(hb.cell (block_lt_of_cell hck0)).trans hck0, (HR.out w' hb).2.2.1, (HR.out w' hb).2.2.2⟩)
        obtain ⟨z, hz⟩ : ∃ z, z = looseG s g := ⟨_, rfl⟩
        obtain ⟨c, l, hcl⟩ : ∃ c l, readG s g = (c, l) := ⟨_, _, rfl⟩
        have hzz : (z != z) = false := by simp
        have hcc : (c != c) = false := by simp
        have HS := Lib.hid (And.intro hz hcl)
        have f0 := (HCK.out wr hbr.out).1
        have f1 := (HCK.out wr hbr.out).2.1
        have f2 := (HCK.out wr hbr.out).2.2
        clear hc hs hz hcl hck0
        go_wp2_with fail
        go_region_held3 (fun w' => w'.cell? ⟨b, off + j, none⟩ = some (.string s) ∧ w'.cell? ⟨p, 0, none⟩ = some (.pointer (some ⟨d, 0, none⟩)) ∧ w'.cell? ⟨p, 1, none⟩ = some (.pointer (some ⟨r, 0, none⟩)))
          (first
            | (exact ⟨f0, f1, f2⟩)
            | (exact HCK.out _ hbb6))
          (first
            | (go_at_call 33
               refine (@Read_S Z0 s d mb base g _ (H1.out.2.2.1.later (hbr.out.trans (Below.refl _ wr).drew)).ds).mono ?_
               rintro e w6 ⟨v6, rfl, hv6, hb6⟩
               rw [HS.out.2] at hv6
               rw [HS.out.2]
               obtain ⟨a6, c6, rfl, hvb6, _⟩ := hv6.bytes
               have hbb6 : Below w1.heap.size w1 w6 := (hbr.out.trans (Below.refl _ wr).drew).trans (hb6.mono hbr.out.size)))
        all_goals
          have HB6 := Lib.hid (And.intro hbb6 hvb6)
          clear hv6 hb6 hvb6 hbb6 f0 f1 f2
          have f0 := (HCK.out _ HB6.out.1).1
          have f1 := (HCK.out _ HB6.out.1).2.1
          have f2 := (HCK.out _ HB6.out.1).2.2
          go_wp2_with fail
          go_region_held3 (fun w' => w'.cell? ⟨b, off + j, none⟩ = some (.string s) ∧ w'.cell? ⟨p, 0, none⟩ = some (.pointer (some ⟨d, 0, none⟩)) ∧ w'.cell? ⟨p, 1, none⟩ = some (.pointer (some ⟨r, 0, none⟩)))
            (first
              | (exact ⟨f0, f1, f2⟩)
              | (exact HCK.out _ hbb8))
            (first
              | (go_at_call 34
                 refine (@rRead_S Z0 s r base q k g _ (H1.out.2.2.1.later (HB6.out.1.trans (Below.refl _ _).drew)).rs HA.out.2).mono ?_
                 rintro e w8 ⟨v8, rfl, hv8, hb8⟩
                 rw [HS.out.2] at hv8
                 rw [HS.out.2]
                 obtain ⟨a8, c8, rfl, hvb8, _⟩ := hv8.bytes
                 have hbb8 : Below w1.heap.size w1 w8 := (HB6.out.1.trans (Below.refl _ _).drew).trans (hb8.mono HB6.out.1.size)
                 have hvb6 := HB6.out.2.later ((Below.refl _ _).drew.trans hb8)))
          all_goals
            have HB8 := Lib.hid (And.intro hbb8 (And.intro hvb8 hvb6))
            clear hv8 hb8 hvb8 hbb8 f0 f1 f2 hvb6
            have f0 := (HCK.out _ HB8.out.1).1
            have f1 := (HCK.out _ HB8.out.1).2.1
            have f2 := (HCK.out _ HB8.out.1).2.2
            go_wp2_with fail
            go_region_held3 (fun w' => w'.cell? ⟨b, off + j, none⟩ = some (.string s) ∧ w'.cell? ⟨p, 0, none⟩ = some (.pointer (some ⟨d, 0, none⟩)) ∧ w'.cell? ⟨p, 1, none⟩ = some (.pointer (some ⟨r, 0, none⟩)))
              (first
                | (exact ⟨f0, f1, f2⟩)
                | (exact HCK.out _ (HB8.out.1.trans ((hbX).mono HB8.out.1.size)))
                | (exact HCK.out _ (HB8.out.1.trans ((Below.refl _ _).drew))))
              (first
                | (go_at_call 35
                   refine (SameBytes_any _ _ _ _ _ _ _ _ _ (HB8.out.2.2.later (Below.refl _ _).drew) (HB8.out.2.1.later (Below.refl _ _).drew)).mono ?_
                   rintro e w9 ⟨rfl, rfl⟩
                   rw [beq_self_eq_true])
                | (go_at_call 36
                   refine (@Loose_S Z0 s d mb base g _ (H1.out.2.2.1.later (HB8.out.1.trans (Below.refl _ _).drew)).ds).mono ?_
                   rintro e w9 ⟨rfl, rfl⟩
                   rw [← HS.out.1])
                | (go_at_call 37
                   refine (@rLoose_S Z0 s r base q k g _ (H1.out.2.2.1.later (HB8.out.1.trans (Below.refl _ _).drew)).rs HA.out.2).mono ?_
                   rintro e w9 ⟨rfl, hb9⟩
                   rw [← HS.out.1]
                   have hbX := (Below.refl _ _).drew.trans hb9))
            all_goals
              have HB9 := Lib.hid (HB8.out.1.trans (hbX.mono HB8.out.1.size))
              clear hb9 hbX f0 f1 f2
              go_wp2_with fail
              go_roundw
              case rel => exact ⟨j + 1, by omega, by go_num, HB9.out⟩
              case measure => simp [intOf]; omega
      · obtain rfl : j = n := by omega
        obtain ⟨W, hW⟩ : ∃ W, W = wr := ⟨_, rfl⟩
        have HE := Lib.hid (And.intro (H1.out.2.2.1.later hbr.out) (H1.out.1.trans (hbr.out.mono H1.out.1.size)))
        have hcs := HE.out.1.cells
        have hled := HE.out.1.led
        go_wp2_with fail
        rcases hled with ⟨h01, h02, h03⟩ | ⟨L', l', m', h01, h02, h03, h04, h05, h06, h07, h08, h09⟩
        · obtain rfl := h02
          obtain rfl := h03
          have p3 := hcs.2.2.2
          clear hcs hj hlt HW3
          go_region
          all_goals
            go_wp2_with fail
            go_ret
            exact ⟨rfl, HE.out.2.trans (Below.refl _ _).drew⟩
        · obtain rfl := h02
          obtain rfl := h03
          obtain ⟨L1, L2, L3, L4⟩ := L'
          dsimp only at h06 h07
          have p2 := hcs.2.2.1
          have p3 := hcs.2.2.2
          obtain ⟨_, _, m2, m3, m4⟩ := h07.cells
          have HL6 := Lib.hid h06
          have e1 : (L2 == L2) = true := by simp
          have e2 : (L3 == L3) = true := by simp
          have e3 : (L4 == L4) = true := by simp
          clear hcs hj hlt HW3 h04 h05 h06 h07 h08 h09 h01
          go_region_held3 (fun w' => w'.cell? ⟨p, 2, none⟩ = some (.pointer (some ⟨l', 0, none⟩)) ∧ w'.cell? ⟨p, 3, none⟩ = some (.pointer (some ⟨m', 0, none⟩)) ∧ w'.cell? ⟨m', 2, none⟩ = some (.int .i64 L2) ∧ w'.cell? ⟨m', 3, none⟩ = some (.int .i64 L3) ∧ w'.cell? ⟨m', 4, none⟩ = some (.bool L4))
            (first
              | (exact ⟨p2, p3, m2, m3, m4⟩)
              | (rename_i hX; exact hX)
              | assumption)
            (first
              | (go_at_call 38
                 refine (Len_any l' d L1 L2 L3 L4 _ (show LedRow wr.drew l' d L1 L2 L3 L4 from HL6.out)).mono ?_
                 rintro e w9 ⟨rfl, rfl⟩)
              | (go_at_call 39
                 refine (Size_any l' d L1 L2 L3 L4 _ (show LedRow wr.drew l' d L1 L2 L3 L4 from HL6.out)).mono ?_
                 rintro e w9 ⟨rfl, rfl⟩)
              | (go_at_call 40
                 refine (Broken_any l' d L1 L2 L3 L4 _ (show LedRow wr.drew l' d L1 L2 L3 L4 from HL6.out)).mono ?_
                 rintro e w9 ⟨rfl, rfl⟩))
          all_goals
            go_wp2_with fail
            go_ret
            exact ⟨rfl, HE.out.2.trans (Below.refl _ _).drew⟩
end
end Go.Proofs.YtjkkfjmloleedaaGreat
