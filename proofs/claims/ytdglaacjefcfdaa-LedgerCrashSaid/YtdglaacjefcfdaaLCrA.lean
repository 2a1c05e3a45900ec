/- LedgerCrash's walk -/
import Derived.Test.YtdglaacjefcfdaaLCrO
import Derived.Test.YtdglaacjefcfdaaLAwake
namespace Go.Proofs.Ytdglaacjefcfdaa
open Go.RowKit
theorem getD_mem {L : List (List UInt8)} {i : Nat} (h : i < L.length) : L.getD i [] ∈ L := by
  rw [List.getD_eq_getElem?_getD, List.getElem?_eq_getElem h]
  exact List.getElem_mem h
theorem mem_take_succ {L : List (List UInt8)} {q t u : Nat} (hq : q < L.length) (h : ∀ r ∈ L.take q, r.length ≤ t) (ht : t ≤ u) (hb : (L.getD q []).length ≤ u) : ∀ r ∈ L.take (q + 1), r.length ≤ u := by
  intro r hr
  rw [List.take_succ_eq_append_getElem hq] at hr
  rcases List.mem_append.1 hr with h1 | h1
  · have := h r h1; omega
  · rw [List.mem_singleton.1 h1]
    rw [List.getD_eq_getElem?_getD, List.getElem?_eq_getElem hq] at hb
    exact hb
/-- lives short enough so far. -/
def Fits (X : List LifeV) (k s : Nat) : Prop := ∀ i, i < k → (X.getD i life0).L.length ≤ 12 ∧ ∀ r ∈ (X.getD i life0).L, r.length ≤ s
theorem fits_succ {X : List LifeV} {k s t : Nat} (h : Fits X k s) (hst : s ≤ t) (h1 : (X.getD k life0).L.length ≤ 12) (h2 : ∀ r ∈ (X.getD k life0).L, r.length ≤ t) : Fits X (k + 1) t := by
  intro i hi
  by_cases e : i = k
  · subst e; exact ⟨h1, h2⟩
  · obtain ⟨g1, g2⟩ := h i (by omega)
    exact ⟨g1, fun r hr => by have := g2 r hr; omega⟩
set_option maxRecDepth 100000 in
set_option maxHeartbeats 20000000 in
theorem LedgerCrash_any (w : World) (ao : Option Addr) (n cap : Nat) (X : List LifeV) (hs : IsLives w ao n cap X) :
    Calls Try.prog 6 #[.slice ao n cap] w fun e w' => e = .returned (.bool true) ∧ Below w.heap.size w w' := by
  have hnc := hs.2.1
  have hcm := hs.2.2.1
  unfold maxLen at hcm
  have HS := Lib.hid hs
  obtain ⟨base, hbase⟩ : ∃ b, b = w.heap.size := ⟨_, rfl⟩
  have HBASE := Lib.hid hbase
  clear hs hbase
  go_enter Try.func6, Try.ntmps6
  go_wp2_with fail
  refine (awake_any w).mono ?_
  rintro e w1 ⟨rfl, hb1⟩
  have HB1 := Lib.hid hb1
  clear hb1
  go_wp2_with fail
  go_loopw [4, 5] (fun sm i wr => ∃ k s : Nat, k ≤ n ∧ k ≤ 13 ∧ i = .int .i64 k ∧ sm = .int .i64 s ∧ s ≤ k * 1829587348619264 ∧ Hid (Fits X k s) ∧ w1 = wr) (fun _ i _ => n - (intOf i).toNat)
  case atStart => exact ⟨0, 0, by omega, by omega, rfl, rfl, by omega, fun i hi => absurd hi (by omega), rfl⟩
  case round =>
    obtain ⟨k, s, hk, hk13, rfl, rfl, hsb, hfit, rfl⟩ := hrel
    by_cases hgo : k < n ∧ k < 13
    · obtain ⟨hlt, h13⟩ := hgo
      obtain ⟨b, off, la, ln, lc, rfl, e0, e1, e2, hL, q1, q2, q3⟩ := HS.out.at HB1.out hlt
      have hk0 : (0 : Int) ≤ (k : Int) := by omega
      have hk1 : (k : Int) < (n : Int) := by omega
      have hk2 : (k : Int) < 13 := by omega
      obtain ⟨x, hx⟩ : ∃ x, x = X.getD k life0 := ⟨_, rfl⟩
      rw [← hx] at hL q3
      have HX := Lib.hid hx
      have hll := hL.1
      have hl2 := hL.2.1
      have hl3 := hL.2.2.1
      unfold maxLen at hl3
      have HLX := Lib.hid (hL.later HB1.out)
      have HLL : Hid (x.L.length = ln) := Lib.hid hll
      have HQ3 := Lib.hid q3
      have hsb2 : s ≤ 21955048183431168 := by omega
      clear hx hL q1 q2 q3 e1 e2 hll
      go_wp2_with fail
      go_loopw [4, 6] (fun sm i wr => ∃ q t : Nat, q ≤ ln ∧ q ≤ 13 ∧ i = .int .i64 q ∧ sm = .int .i64 t ∧ s ≤ t ∧ t ≤ s + q * 140737488355328 ∧ Hid (∀ r ∈ x.L.take q, r.length ≤ t) ∧ w1 = wr) (fun _ i _ => ln - (intOf i).toNat)
      case atStart => exact ⟨0, s, by omega, by omega, rfl, rfl, by omega, by omega, fun r hr => by simp at hr, rfl⟩
      case round =>
        obtain ⟨q, t, hq, hq13, rfl, rfl, hst, htb, hrs, rfl⟩ := hrel
        by_cases hgo2 : q < ln ∧ q < 13
        · obtain ⟨hlt2, h132⟩ := hgo2
          obtain ⟨b2, off2, aoi, ni, capi, rfl, hc, hb⟩ := HLX.out.2.2.2.2 q hlt2
          have hq0 : (0 : Int) ≤ (q : Int) := by omega
          have hq1 : (q : Int) < (ln : Int) := by omega
          have hq2 : (q : Int) < 13 := by omega
          have hni : ni ≤ 140737488355328 := by
            rw [← hb.1]; exact HQ3.out _ (getD_mem (by rw [HLL.out]; exact hlt2))
          have hw : IntKind.i64.wrap ((t : Int) + (ni : Int)) = (t : Int) + (ni : Int) := IntWalk.i64_in _ (by omega)
          have HBL := Lib.hid hb.1
          clear hb
          go_wp2_with fail
          go_roundw
          case rel => exact ⟨q + 1, t + ni, by omega, by omega, by go_num, by push_cast; rfl, by omega, by omega, mem_take_succ (by rw [HLL.out]; exact hlt2) hrs.out (by omega) (by rw [HBL.out]; omega), trivial⟩
          case measure => simp [intOf]; omega
        · by_cases hbad : 12 < ln
          · have hbi : (12 : Int) < (ln : Int) := by omega
            go_wp2_with fail
            all_goals
              go_ret
              exact ⟨rfl, HB1.out⟩
          · obtain rfl : q = ln := by omega
            have hbi : ¬ (12 : Int) < (q : Int) := by omega
            go_wp2_with fail
            go_roundw
            case rel => exact ⟨k + 1, t, by omega, by omega, by go_num, rfl, by omega, fits_succ hfit.out hst (by rw [← HX.out, HLL.out]; omega) (by rw [← HX.out, ← List.take_of_length_le (l := x.L) (i := q) (by rw [HLL.out]; exact Nat.le_refl _)]; exact hrs.out), trivial⟩
            case measure => simp [intOf]; omega
    · have HFIT := Lib.hid hfit.out
      clear hfit hsb
      by_cases hbad : 12 < n ∨ 3000 < s
      · have hs0 : (0 : Int) ≤ (s : Int) := by omega
        have hcase : (k < n ∧ 13 ≤ k) ∨ (¬ k < n ∧ 12 < n) ∨ (¬ k < n ∧ ¬ 12 < n ∧ 3000 < s) := by omega
        rcases hcase with ⟨g1, g2⟩ | ⟨g1, g2⟩ | ⟨g1, g2, g3⟩
        all_goals
          go_wp2_with fail
          refine (New_any w1).mono ?_
          rintro e w2 ⟨d, mb, rfl, _, _, _, _, hb2⟩
          have HB2 := Lib.hid (HB1.out.trans (hb2.mono HB1.out.size))
          clear hb2
          go_wp2_with fail
          go_ret
          exact ⟨rfl, HB2.out⟩
      · obtain rfl : k = n := by omega
        have hn12 : k ≤ 12 := by omega
        have hk12 : ¬ (12 < k) := by omega
        have hs3 : ¬ (3000 < s) := by omega
        have hA : decide ((12 : Int) < (k : Int)) = false := by simp; omega
        have hC : decide ((3000 : Int) < (s : Int)) = false := by simp; omega
        clear hbad hgo hk hk13
        go_wp2_with fail
        refine (New_any w1).mono ?_
        rintro e w2 ⟨d, mb, rfl, hmb, hmd, hdr, hm, hb2⟩
        have hst : LifeSt w base d mb (.slice none 0 0) [] w2 := ⟨OwnL.nil _ _, by rw [HBASE.out]; exact HB1.out.trans (hb2.mono HB1.out.size), by rw [HBASE.out]; exact Nat.le_trans HB1.out.size hb2.size, .inl ⟨rfl, rfl, 0, 0, by omega, hmd, hdr, hm⟩⟩
        have h1 : base ≤ d := by have := HB1.out.size; rw [HBASE.out]; omega
        have h2 : base ≤ mb := by have := HB1.out.size; rw [HBASE.out]; omega
        have HST := Lib.hid hst
        clear hst hmb hmd hdr hm hb2
        go_wp2_with fail
        go_loopw [8, 9] (fun hv i wr => ∃ (k' : Nat) (H : List (List UInt8)), k' ≤ k ∧ i = .int .i64 k' ∧ H.length ≤ 12 * k' ∧ Hid (∀ r ∈ H, r.length ≤ 3000) ∧ Hid (LifeSt w base d mb hv H wr)) (fun _ i _ => k - (intOf i).toNat)
        case atStart => exact ⟨0, [], by omega, rfl, by simp, fun r hr => by simp at hr, HST.out⟩
        case round =>
          obtain ⟨j, H, hj, rfl, hHl, hHs, hLS⟩ := hrel
          by_cases hlt : j < k
          · obtain ⟨b, off, la, ln, lc, rfl, e0, e1, e2, hL, q1, q2, q3⟩ := HS.out.at (by rw [← HBASE.out]; exact hLS.out.low) hlt
            have hk0 : (0 : Int) ≤ (j : Int) := by omega
            have hk1 : (j : Int) < (k : Int) := by omega
            obtain ⟨x, hx⟩ : ∃ x, x = X.getD j life0 := ⟨_, rfl⟩
            rw [← hx] at hL q1 q2 q3 e1 e2
            obtain ⟨xL, z, keep⟩ := x
            dsimp only at hL q1 q2 q3 e1 e2
            have HX := Lib.hid (And.intro hx (And.intro hL (And.intro q1 (And.intro q2 q3))))
            have hl2 := hL.2.1
            have hl3 := hL.2.2.1
            unfold maxLen at hl3
            obtain ⟨ho, co, hov, _⟩ := hLS.out.own.reads
            subst hov
            have hfj := HFIT.out j hlt
            rw [← hx] at hfj
            have hln : ln ≤ 12 := by rw [← hL.1]; exact hfj.1
            have HREC : Hid (∀ r ∈ xL, r.length ≤ 3000) := fun r hr => by have := hfj.2 r hr; omega
            have HXL : Hid (xL.length = ln) := hL.1
            clear hx hL q1 q2 q3 hfj
            go_wp2_with fail
            generalize hwx : wr.alloc _ = wx
            have hbx : wx.heap[wr.heap.size]? = some (.cells #[.slice la ln lc, .int .i64 z, .int .i64 keep] 56 (0, 0)) := by rw [← hwx]; exact heap_alloc_new _ _
            have hLX : LifeSt w base d mb _ H wx := hLS.out.later (by rw [← hwx]; exact (Below.refl _ _).alloc (Nat.le_refl _) _)
            have hxb : base ≤ wr.heap.size := hLS.out.big
            have HBX := Lib.hid hbx
            have HOP := Lib.hid (opened_start hLX hHs.out h1 h2)
            generalize wr.heap.size = xb at HBX hxb ⊢
            clear hwx hLX hbx e0 e1 e2
            refine HOP.out.mono ?_
            rintro e w3 ⟨l, v, f, rfl, hl, h3, hlr, hov, hoh, hdo, hlow, hbig, hkl⟩
            obtain ⟨rv, rc, hrv, hrl⟩ := hov.reads
            subst hrv
            obtain ⟨ho2, co2, hh, hhl⟩ := hoh.reads
            injection hh with hh1 _ hh2
            subst hh1 hh2
            have HBX3 := Lib.hid (hkl _ _ _ HBX.out)
            have H3 := Lib.hid (And.intro hlr (And.intro hoh (And.intro hdo (And.intro hlow hbig))))
            have HSL := Lib.hid (SameLists_any _ _ _ _ _ _ H H w3 hrl hhl)
            clear hlr hov hoh hdo hlow hbig hkl hrl hhl HBX HOP
            have hHH : (H == H) = true := by simp
            rw [hHH] at HSL
            clear hHH
            by_cases hz : z < 0
            · go_wp2_with fail
              refine HSL.out.mono ?_
              rintro e w4 ⟨rfl, q4, rfl⟩
              have c1 : (w3.drewN q4).cell? ⟨xb, 1, none⟩ = some (.int .i64 z) := cell_of_row _ _ _ _ _ _ HBX3.out
              have hb4 : Below w3.heap.size w3 (w3.drewN q4) := below_drewN (Below.refl _ _) q4
              have HA := Lib.hid (life_begins (l := l) (fu := -1) H3.out.1 H3.out.2.1 H3.out.2.2.1 H3.out.2.2.2.1 H3.out.2.2.2.2 HBX3.out hHs.out (.of_below hb4) (H3.out.2.2.1.later hb4) (fun _ => rfl) h1 h2 h3)
              clear hb4
              generalize w3.drewN q4 = w4 at c1 HA ⊢
              go_wp2_with fail
              obtain ⟨wo, rfl⟩ : ∃ wo : World, wo = wr := ⟨_, rfl⟩
              go_loopw [8, 14, 15, 16] (fun hv fv fl kk wr => ∃ (q : Nat) (H2 : List (List UInt8)) (b : Bool) (B : List UInt8), q ≤ ln ∧ kk = .int .i64 q ∧ fl = .bool b ∧ Hid (AddSt w base d mb f l xb z keep (.slice la ln lc) (H.length + q) hv H2 b fv B wr)) (fun _ _ _ kk _ => ln - (intOf kk).toNat)
              case atStart => exact ⟨0, H, false, [], by omega, rfl, rfl, HA.out⟩
              case round =>
                obtain ⟨q, H2, b, B, hq, rfl, rfl, hA2⟩ := hrel
                have c0 : wr.cell? ⟨xb, 0, none⟩ = some (.slice la ln lc) := cell_of_row _ _ _ _ _ _ hA2.out.box
                have c1 : wr.cell? ⟨xb, 1, none⟩ = some (.int .i64 z) := cell_of_row _ _ _ _ _ _ hA2.out.box
                have c2 : wr.cell? ⟨xb, 2, none⟩ = some (.int .i64 keep) := cell_of_row _ _ _ _ _ _ hA2.out.box
                by_cases hlt2 : q < ln
                · obtain ⟨b2, off2, aoi, ni, capi, hla, hcw, hbw⟩ := HX.out.2.1.2.2.2.2 q hlt2
                  have hce : wr.cell? ⟨b2, off2 + q, none⟩ = some (.slice aoi ni capi) := (World.cell?_of_block (hA2.out.low.block b2 (by rw [HBASE.out]; exact block_lt_of_cell hcw))).trans hcw
                  have hlow : Below w.heap.size w wr := by rw [← HBASE.out]; exact hA2.out.low
                  have hel : Elem wr base (.slice aoi ni capi) (xL.getD q []) := .of_old hbw (by rw [HBASE.out]; exact Nat.le_refl _) hlow
                  have hby := hbw.later hlow
                  obtain ⟨R, hR⟩ : ∃ R, R = xL.getD q [] := ⟨_, rfl⟩
                  have hR3 : R.length ≤ 3000 := by rw [hR]; exact HREC.out _ (getD_mem (by rw [HXL.out]; exact hlt2))
                  rw [← hR] at hel hby hbw
                  have hni : ni ≤ 3000 := by rw [← hbw.1]; exact hR3
                  subst hla
                  have HCW : Hid (∀ w' : World, Below base w w' → w'.cell? ⟨b2, off2 + q, none⟩ = some (.slice aoi ni capi)) := fun w' hl => (World.cell?_of_block (hl.block b2 (by rw [HBASE.out]; exact block_lt_of_cell hcw))).trans hcw
                  have HR := Lib.hid (And.intro hel (And.intro hby (And.intro hR3 hbw.1)))
                  have hq0 : (0 : Int) ≤ (q : Int) := by omega
                  have hq1 : (q : Int) < (ln : Int) := by omega
                  have hlen : H2.length ≤ H.length + q := by have := hA2.out.len; omega
                  have hPl := putAll_len_le H2 3000 hA2.out.small
                  have hPl2 : H2.length * (3000 + 12) ≤ 156 * 3012 := Nat.mul_le_mul (by omega) (by omega)
                  have hPl3 : (Fr.putAll H2).length ≤ 469872 := by omega
                  clear hcw hlow hel hby hbw hR3 hPl hPl2 hR
                  cases b with
                  | true =>
                    obtain ⟨n', sz', hlr, _⟩ := hA2.out.led
                    have HADD := Lib.hid (Add_broken l d n' sz' (.slice aoi ni capi) wr hlr)
                    clear hlr
                    go_wp2_with fail
                    refine HADD.out.mono ?_
                    rintro e w5 ⟨rfl, hb5⟩
                    have HN := Lib.hid (hA2.out.later (q' := H.length + (q + 1)) hb5 (by omega))
                    clear hb5
                    go_wp2_with fail
                    go_roundw
                    case rel => exact ⟨q + 1, H2, true, B, by omega, by go_num, rfl, HN.out⟩
                    case measure => simp [intOf]; omega
                  | false =>
                    obtain ⟨n', sz', hlr, hnn⟩ := hA2.out.led
                    obtain ⟨rfl, rfl⟩ := hnn rfl
                    obtain ⟨fu, hdo, hfu⟩ := hA2.out.no rfl
                    clear hnn
                    have hf0 : fu = -1 := hfu (by omega)
                    subst hf0
                    have hfu2 : z < 0 → dec (dec (-1)) = -1 := fun _ => rfl
                    have HADD := Lib.hid (Add_any base d mb f l _ _ (Fr.putAll H2) aoi ni capi R wr hA2.out.big (by decide) (by decide) hlr hdo HR.out.2.1 (by omega) (by omega) (by omega) (by omega) (by omega) (by omega))
                    have HFU := Lib.hid hfu2
                    clear hlr hdo hfu hfu2
                    go_wp2_with fail
                    refine HADD.out.mono ?_
                    rintro e w5 ⟨rfl, hl5, hd5, hm5⟩
                    rw [← HR.out.2.2.2] at hl5
                    have hn := hA2.out.added hm5 h1 h2 h3 hl hl5 hd5 HFU.out HR.out.1
                    have hce5 : w5.cell? ⟨b2, off2 + q, none⟩ = some (.slice aoi ni capi) := HCW.out _ hn.low
                    have c05 : w5.cell? ⟨xb, 0, none⟩ = some (.slice (some ⟨b2, off2, none⟩) ln lc) := cell_of_row _ _ _ _ _ _ hn.box
                    have HN := Lib.hid hn
                    clear hl5 hd5 hm5 hn
                    have hal : Below w5.heap.size w5 (w5.alloc (.cells #[.slice aoi ni capi] 24)) := (Below.refl _ _).alloc (Nat.le_refl _) _
                    have HAL := Lib.hid hal
                    clear hal
                    go_wp2_with (at_builtin; refine wpList_append_one rfl _ _ rfl base _ H2 rfl (HN.out.later HAL.out).own w5.heap.size rfl (.slice aoi ni capi) R (cell_of_row _ _ _ _ _ _ (heap_alloc_new _ _)) (HN.out.later HAL.out).new (by omega) (HN.out.later HAL.out).big ?_; intro v1 w6 hown6 hg6)
                    have HK := Lib.hid ((HN.out.later HAL.out).kept hA2.out.small hA2.out.len hA2.out.smallB HR.out.2.2.1 hown6 hg6)
                    clear hown6 hg6
                    go_roundw
                    case rel => exact ⟨q + 1, H2 ++ [R], false, B, by omega, by go_num, rfl, HK.out⟩
                    case measure => simp [intOf]; omega
                · obtain rfl : q = ln := by omega
                  obtain ⟨fa, fn, fc, hfe, _⟩ := hA2.out.flt
                  subst hfe
                  obtain ⟨ah, ch, hhe, _⟩ := hA2.out.own.reads
                  subst hhe
                  obtain ⟨n', sz', hlr, _⟩ := hA2.out.led
                  obtain ⟨D, hun, hha⟩ := hA2.out.has
                  have hk := wf_i64 HX.out.2.2.2.1
                  have hal : Below wr.heap.size wr (wr.alloc (.cells #[.int .i64 keep] 3)) := (Below.refl _ _).alloc (Nat.le_refl _) _
                  have HBR := Lib.hid (Broken_any l d n' sz' b wr hlr)
                  have HCR := Lib.hid (Crash_any d mb f base wr.heap.size keep (Fr.putAll H2) D (wr.alloc (.cells #[.int .i64 keep] 3)) hk.1 hk.2 (hha.later hal) (cell_of_row _ _ _ _ _ _ (heap_alloc_new _ _)))
                  have HAA := Lib.hid (And.intro (hA2.out.later (q' := H.length + q) hal (Nat.le_refl _)) (And.intro hun (hha.later hal)))
                  have hlen : H2.length ≤ H.length + q := by have := hA2.out.len; omega
                  have hyes := hA2.out.yes
                  clear hlr hun hha hk hal hA2
                  cases b with
                  | true =>
                    exact absurd hz (hyes rfl).1
                  | false =>
                    clear hyes
                    go_wp2_with fail
                    refine HBR.out.mono ?_
                    rintro e w5 ⟨rfl, rfl⟩
                    go_wp2_with fail
                    refine HCR.out.mono ?_
                    rintro e w6 ⟨rfl, ⟨u, hu, hd6⟩, hm6⟩
                    obtain ⟨A, hh6, hel6, hlow6, hbig6, hdo6, hA61, hA62⟩ := HAA.out.1.crashed HAA.out.2.1 HAA.out.2.2 hm6 hd6 h1 h2 h3
                    have HOC := Lib.hid (opened_crash hh6 hel6 hlow6 hbig6 hdo6 hA61 hA62 HAA.out.1.small HAA.out.1.smallB (by omega) h1 h2 h3)
                    clear hu hd6 hm6 hh6 hel6 hlow6 hbig6 hdo6 hA61 hA62 HCR HBR
                    go_wp2_with fail
                    refine HOC.out.mono ?_
                    rintro e w7 ⟨l7, v7, R, rfl, hR, hv7, hh7, hel7, hdo7, hlow7, hbig7⟩
                    obtain ⟨a7, cap7, hv7e, _⟩ := hv7.reads
                    subst hv7e
                    have HRR := Lib.hid (And.intro hR (HAA.out.1.len_after hR))
                    have H7 := Lib.hid (And.intro hv7 (And.intro hh7 (And.intro hel7 (And.intro hdo7 (And.intro hlow7 hbig7)))))
                    clear hR hv7 hh7 hel7 hdo7 hlow7 hbig7 HOC
                    have hal : Below w7.heap.size w7 (w7.alloc (.cells #[] 24)) := (Below.refl _ _).alloc (Nat.le_refl _) _
                    have HAL := Lib.hid hal
                    clear hal
                    go_wp2_with (first
                      | (at_builtin; refine wpList_append_row rfl _ _ rfl w7.heap.size (.slice (some ⟨w7.heap.size, 0, none⟩) 0 0) [] rfl (OwnL.none_new w7 _ (Nat.le_refl _)) base _ H2 rfl (H7.out.2.1.later HAL.out) H7.out.2.2.2.2.2 (by simp; omega) HAL.out.size ?_; intro v8 w8 hown8 hg8; have HG8 := Lib.hid (And.intro hown8 (HAL.out.grown hg8 HAL.out.size (fun k hk => by simp only [Value.ownBlock, Option.some.injEq] at hk; omega))); clear hown8 hg8)
                      | (at_builtin; refine wpList_append_one rfl _ _ rfl w7.heap.size _ ([] ++ H2) rfl (HG8.out.1.later ((Below.refl _ _).alloc (Nat.le_refl _) _)) w8.heap.size rfl _ B (cell_of_row _ _ _ _ _ _ (heap_alloc_new _ _)) (((H7.out.2.2.1.later HG8.out.2).later ((Below.refl _ _).alloc (Nat.le_refl _) _)).up H7.out.2.2.2.2.2) (by simp; omega) (Nat.le_trans HG8.out.2.size (by simp)) ?_; intro v9 w9 hown9 hg9; have HG9 := Lib.hid (And.intro hown9 ((HG8.out.2.alloc HG8.out.2.size _).grown hg9 (Nat.le_trans HG8.out.2.size (by simp)) (fun k hk => by obtain ⟨vs, hvs, _⟩ := HG8.out.1; exact (hvs.lt k hk).1))); clear hown9 hg9))
                    obtain ⟨a9, cap9, hv9e, hl9⟩ := HG9.out.1.reads
                    generalize hm9 : ([] ++ H2 ++ [B]).length = m9 at hv9e hl9
                    subst hv9e
                    clear hm9
                    obtain ⟨ar, cr, hre, hrl⟩ := (H7.out.1.later HG9.out.2).reads
                    injection hre with hre1 _ hre2
                    subst hre1 hre2
                    obtain ⟨ar, cr, hre, hhl⟩ := (H7.out.2.1.later HG9.out.2).reads
                    injection hre with hre1 _ hre2
                    subst hre1 hre2
                    have HS1 := Lib.hid (SameLists_any _ _ _ _ _ _ R H2 w9 hrl hhl)
                    have HRL := Lib.hid (And.intro hrl hl9)
                    clear hrl hhl hl9
                    rcases HRR.out.1 with hRe | ⟨hfl, hRe⟩
                    · have hc1 : (R == H2) = true := by rw [hRe]; simp
                      rw [hc1] at HS1
                      clear hRe hc1
                      go_wp2_with fail
                      refine HS1.out.mono ?_
                      rintro e w10 ⟨rfl, q10, rfl⟩
                      have HBZ := Lib.hid (HG9.out.2.trans ((below_drewN (Below.refl w9.heap.size w9) q10).mono HG9.out.2.size))
                      generalize w9.drewN q10 = wz at HBZ ⊢
                      have HOO := Lib.hid (opened_own (w0 := w) (mb := mb) (H7.out.1.later HBZ.out) (H7.out.2.2.2.2.1.trans (HBZ.out.mono H7.out.2.2.2.2.2)) (Nat.le_trans H7.out.2.2.2.2.2 HBZ.out.size) (H7.out.2.2.2.1.later HBZ.out) HRR.out.2.2 h1 h2 h3)
                      go_wp2_with fail
                      refine HOO.out.mono ?_
                      rintro e w11 ⟨l11, v11, rfl, _, _, hv11, hh11, hd11, hlow11, hbig11, _⟩
                      obtain ⟨a11, c11, hv11e, hl11⟩ := hv11.reads
                      subst hv11e
                      obtain ⟨ar, cr, hre, hhl⟩ := hh11.reads
                      injection hre with hre1 _ hre2
                      subst hre1 hre2
                      have HS3 := Lib.hid (SameLists_any _ _ _ _ _ _ R R w11 hl11 hhl)
                      have hRR : (R == R) = true := by simp
                      rw [hRR] at HS3
                      have H11 := Lib.hid (LifeSt.mk (w0 := w) (d := d) (mb := mb) hh11 hlow11 hbig11 (.inr ⟨f, h3, hd11⟩))
                      clear hv11 hh11 hd11 hlow11 hbig11 hl11 hhl hRR HOO
                      go_wp2_with fail
                      refine HS3.out.mono ?_
                      rintro e w12 ⟨rfl, q12, rfl⟩
                      go_wp2_with fail
                      go_roundw
                      case rel => exact ⟨j + 1, R, by omega, by go_num, by have := HRR.out.2.1; omega, HRR.out.2.2, H11.out.later (below_drewN (Below.refl _ _) q12)⟩
                      case measure => simp [intOf]; omega
                    · cases hfl
            · go_wp2_with fail
              refine HSL.out.mono ?_
              rintro e w4 ⟨rfl, q4, rfl⟩
              have c1 : (w3.drewN q4).cell? ⟨xb, 1, none⟩ = some (.int .i64 z) := cell_of_row _ _ _ _ _ _ HBX3.out
              have hb4 : Below w3.heap.size w3 (w3.drewN q4) := below_drewN (Below.refl _ _) q4
              have HF := Lib.hid (Fuse_any d mb f base z (Fr.putAll H) [] (w3.drewN q4) (by omega) (wf_i64 HX.out.2.2.1).2 (H3.out.2.2.1.later hb4))
              have HM4 := Lib.hid (Moved.of_below (d := d) (mb := mb) (f := f) (base := base) hb4)
              clear hb4
              generalize w3.drewN q4 = w4 at c1 HF HM4 ⊢
              go_wp2_with fail
              refine HF.out.mono ?_
              rintro e w5 ⟨rfl, hd5, hm5⟩
              have HA := Lib.hid (life_begins (l := l) H3.out.1 H3.out.2.1 H3.out.2.2.1 H3.out.2.2.2.1 H3.out.2.2.2.2 HBX3.out hHs.out (HM4.out.trans hm5) hd5 (fun h => by omega) h1 h2 h3)
              clear hd5 hm5 c1 HF HM4
              go_wp2_with fail
              obtain ⟨wo, rfl⟩ : ∃ wo : World, wo = wr := ⟨_, rfl⟩
              go_loopw [8, 14, 15, 16] (fun hv fv fl kk wr => ∃ (q : Nat) (H2 : List (List UInt8)) (b : Bool) (B : List UInt8), q ≤ ln ∧ kk = .int .i64 q ∧ fl = .bool b ∧ Hid (AddSt w base d mb f l xb z keep (.slice la ln lc) (H.length + q) hv H2 b fv B wr)) (fun _ _ _ kk _ => ln - (intOf kk).toNat)
              case atStart => exact ⟨0, H, false, [], by omega, rfl, rfl, HA.out⟩
              case round =>
                obtain ⟨q, H2, b, B, hq, rfl, rfl, hA2⟩ := hrel
                have c0 : wr.cell? ⟨xb, 0, none⟩ = some (.slice la ln lc) := cell_of_row _ _ _ _ _ _ hA2.out.box
                have c1 : wr.cell? ⟨xb, 1, none⟩ = some (.int .i64 z) := cell_of_row _ _ _ _ _ _ hA2.out.box
                have c2 : wr.cell? ⟨xb, 2, none⟩ = some (.int .i64 keep) := cell_of_row _ _ _ _ _ _ hA2.out.box
                by_cases hlt2 : q < ln
                · obtain ⟨b2, off2, aoi, ni, capi, hla, hcw, hbw⟩ := HX.out.2.1.2.2.2.2 q hlt2
                  have hce : wr.cell? ⟨b2, off2 + q, none⟩ = some (.slice aoi ni capi) := (World.cell?_of_block (hA2.out.low.block b2 (by rw [HBASE.out]; exact block_lt_of_cell hcw))).trans hcw
                  have hlow : Below w.heap.size w wr := by rw [← HBASE.out]; exact hA2.out.low
                  have hel : Elem wr base (.slice aoi ni capi) (xL.getD q []) := .of_old hbw (by rw [HBASE.out]; exact Nat.le_refl _) hlow
                  have hby := hbw.later hlow
                  obtain ⟨R, hR⟩ : ∃ R, R = xL.getD q [] := ⟨_, rfl⟩
                  have hR3 : R.length ≤ 3000 := by rw [hR]; exact HREC.out _ (getD_mem (by rw [HXL.out]; exact hlt2))
                  rw [← hR] at hel hby hbw
                  have hni : ni ≤ 3000 := by rw [← hbw.1]; exact hR3
                  subst hla
                  have HCW : Hid (∀ w' : World, Below base w w' → w'.cell? ⟨b2, off2 + q, none⟩ = some (.slice aoi ni capi)) := fun w' hl => (World.cell?_of_block (hl.block b2 (by rw [HBASE.out]; exact block_lt_of_cell hcw))).trans hcw
                  have HR := Lib.hid (And.intro hel (And.intro hby (And.intro hR3 hbw.1)))
                  have hq0 : (0 : Int) ≤ (q : Int) := by omega
                  have hq1 : (q : Int) < (ln : Int) := by omega
                  have hlen : H2.length ≤ H.length + q := by have := hA2.out.len; omega
                  have hPl := putAll_len_le H2 3000 hA2.out.small
                  have hPl2 : H2.length * (3000 + 12) ≤ 156 * 3012 := Nat.mul_le_mul (by omega) (by omega)
                  have hPl3 : (Fr.putAll H2).length ≤ 469872 := by omega
                  clear hcw hlow hel hby hbw hR3 hPl hPl2 hR
                  cases b with
                  | true =>
                    obtain ⟨n', sz', hlr, _⟩ := hA2.out.led
                    have HADD := Lib.hid (Add_broken l d n' sz' (.slice aoi ni capi) wr hlr)
                    clear hlr
                    go_wp2_with fail
                    refine HADD.out.mono ?_
                    rintro e w5 ⟨rfl, hb5⟩
                    have HN := Lib.hid (hA2.out.later (q' := H.length + (q + 1)) hb5 (by omega))
                    clear hb5
                    go_wp2_with fail
                    go_roundw
                    case rel => exact ⟨q + 1, H2, true, B, by omega, by go_num, rfl, HN.out⟩
                    case measure => simp [intOf]; omega
                  | false =>
                    obtain ⟨n', sz', hlr, hnn⟩ := hA2.out.led
                    obtain ⟨rfl, rfl⟩ := hnn rfl
                    obtain ⟨fu, hdo, hfu⟩ := hA2.out.no rfl
                    clear hnn
                    by_cases hf0 : fu = 0
                    · subst hf0
                      have HADD := Lib.hid (Add_out base d mb f l _ _ (Fr.putAll H2) aoi ni capi R wr hA2.out.big hlr hdo HR.out.2.1 (by omega) (by omega) (by omega) (by omega) (by omega) (by omega))
                      clear hlr hdo hfu
                      go_wp2_with fail
                      refine HADD.out.mono ?_
                      rintro e w5 ⟨rfl, hl5, hd5, hm5⟩
                      have hn := hA2.out.broke (by omega) hm5 hl5 hd5 (.inl rfl) HR.out.1 HR.out.2.2.1 h1 h2 h3 hl
                      have hce5 : w5.cell? ⟨b2, off2 + q, none⟩ = some (.slice aoi ni capi) := HCW.out _ hn.low
                      have c05 : w5.cell? ⟨xb, 0, none⟩ = some (.slice (some ⟨b2, off2, none⟩) ln lc) := cell_of_row _ _ _ _ _ _ hn.box
                      have HN := Lib.hid hn
                      clear hl5 hd5 hm5 hn
                      go_wp2_with fail
                      go_roundw
                      case rel => exact ⟨q + 1, H2, true, R, by omega, by go_num, rfl, HN.out⟩
                      case measure => simp [intOf]; omega
                    · by_cases hf1 : dec fu = 0
                      · have HADD := Lib.hid (Add_half base d mb f l _ _ (Fr.putAll H2) aoi ni capi R wr hA2.out.big hf0 hf1 hlr hdo HR.out.2.1 (by omega) (by omega) (by omega) (by omega) (by omega) (by omega))
                        clear hlr hdo hfu hf0 hf1
                        go_wp2_with fail
                        refine HADD.out.mono ?_
                        rintro e w5 ⟨rfl, hl5, hd5, hm5⟩
                        have hn := hA2.out.broke (by omega) hm5 hl5 hd5 (.inr ⟨rfl, rfl⟩) HR.out.1 HR.out.2.2.1 h1 h2 h3 hl
                        have hce5 : w5.cell? ⟨b2, off2 + q, none⟩ = some (.slice aoi ni capi) := HCW.out _ hn.low
                        have c05 : w5.cell? ⟨xb, 0, none⟩ = some (.slice (some ⟨b2, off2, none⟩) ln lc) := cell_of_row _ _ _ _ _ _ hn.box
                        have HN := Lib.hid hn
                        clear hl5 hd5 hm5 hn
                        go_wp2_with fail
                        go_roundw
                        case rel => exact ⟨q + 1, H2, true, R, by omega, by go_num, rfl, HN.out⟩
                        case measure => simp [intOf]; omega
                      · have hfu2 : z < 0 → dec (dec fu) = -1 := fun h => by omega
                        have HADD := Lib.hid (Add_any base d mb f l _ _ (Fr.putAll H2) aoi ni capi R wr hA2.out.big hf0 hf1 hlr hdo HR.out.2.1 (by omega) (by omega) (by omega) (by omega) (by omega) (by omega))
                        have HFU := Lib.hid hfu2
                        clear hlr hdo hfu hfu2
                        go_wp2_with fail
                        refine HADD.out.mono ?_
                        rintro e w5 ⟨rfl, hl5, hd5, hm5⟩
                        rw [← HR.out.2.2.2] at hl5
                        have hn := hA2.out.added hm5 h1 h2 h3 hl hl5 hd5 HFU.out HR.out.1
                        have hce5 : w5.cell? ⟨b2, off2 + q, none⟩ = some (.slice aoi ni capi) := HCW.out _ hn.low
                        have c05 : w5.cell? ⟨xb, 0, none⟩ = some (.slice (some ⟨b2, off2, none⟩) ln lc) := cell_of_row _ _ _ _ _ _ hn.box
                        have HN := Lib.hid hn
                        clear hl5 hd5 hm5 hn
                        have hal : Below w5.heap.size w5 (w5.alloc (.cells #[.slice aoi ni capi] 24)) := (Below.refl _ _).alloc (Nat.le_refl _) _
                        have HAL := Lib.hid hal
                        clear hal
                        go_wp2_with (at_builtin; refine wpList_append_one rfl _ _ rfl base _ H2 rfl (HN.out.later HAL.out).own w5.heap.size rfl (.slice aoi ni capi) R (cell_of_row _ _ _ _ _ _ (heap_alloc_new _ _)) (HN.out.later HAL.out).new (by omega) (HN.out.later HAL.out).big ?_; intro v1 w6 hown6 hg6)
                        have HK := Lib.hid ((HN.out.later HAL.out).kept hA2.out.small hA2.out.len hA2.out.smallB HR.out.2.2.1 hown6 hg6)
                        clear hown6 hg6
                        go_roundw
                        case rel => exact ⟨q + 1, H2 ++ [R], false, B, by omega, by go_num, rfl, HK.out⟩
                        case measure => simp [intOf]; omega
                · obtain rfl : q = ln := by omega
                  obtain ⟨fa, fn, fc, hfe, _⟩ := hA2.out.flt
                  subst hfe
                  obtain ⟨ah, ch, hhe, _⟩ := hA2.out.own.reads
                  subst hhe
                  obtain ⟨n', sz', hlr, _⟩ := hA2.out.led
                  obtain ⟨D, hun, hha⟩ := hA2.out.has
                  have hk := wf_i64 HX.out.2.2.2.1
                  have hal : Below wr.heap.size wr (wr.alloc (.cells #[.int .i64 keep] 3)) := (Below.refl _ _).alloc (Nat.le_refl _) _
                  have HBR := Lib.hid (Broken_any l d n' sz' b wr hlr)
                  have HCR := Lib.hid (Crash_any d mb f base wr.heap.size keep (Fr.putAll H2) D (wr.alloc (.cells #[.int .i64 keep] 3)) hk.1 hk.2 (hha.later hal) (cell_of_row _ _ _ _ _ _ (heap_alloc_new _ _)))
                  have HAA := Lib.hid (And.intro (hA2.out.later (q' := H.length + q) hal (Nat.le_refl _)) (And.intro hun (hha.later hal)))
                  have hlen : H2.length ≤ H.length + q := by have := hA2.out.len; omega
                  have hyes := hA2.out.yes
                  clear hlr hun hha hk hal hA2
                  cases b with
                  | true =>
                    clear hyes
                    go_wp2_with fail
                    refine HBR.out.mono ?_
                    rintro e w5 ⟨rfl, rfl⟩
                    go_wp2_with fail
                    refine HCR.out.mono ?_
                    rintro e w6 ⟨rfl, ⟨u, hu, hd6⟩, hm6⟩
                    obtain ⟨A, hh6, hel6, hlow6, hbig6, hdo6, hA61, hA62⟩ := HAA.out.1.crashed HAA.out.2.1 HAA.out.2.2 hm6 hd6 h1 h2 h3
                    have HOC := Lib.hid (opened_crash hh6 hel6 hlow6 hbig6 hdo6 hA61 hA62 HAA.out.1.small HAA.out.1.smallB (by omega) h1 h2 h3)
                    clear hu hd6 hm6 hh6 hel6 hlow6 hbig6 hdo6 hA61 hA62 HCR HBR
                    go_wp2_with fail
                    refine HOC.out.mono ?_
                    rintro e w7 ⟨l7, v7, R, rfl, hR, hv7, hh7, hel7, hdo7, hlow7, hbig7⟩
                    obtain ⟨a7, cap7, hv7e, _⟩ := hv7.reads
                    subst hv7e
                    have HRR := Lib.hid (And.intro hR (HAA.out.1.len_after hR))
                    have H7 := Lib.hid (And.intro hv7 (And.intro hh7 (And.intro hel7 (And.intro hdo7 (And.intro hlow7 hbig7)))))
                    clear hR hv7 hh7 hel7 hdo7 hlow7 hbig7 HOC
                    have hal : Below w7.heap.size w7 (w7.alloc (.cells #[] 24)) := (Below.refl _ _).alloc (Nat.le_refl _) _
                    have HAL := Lib.hid hal
                    clear hal
                    go_wp2_with (first
                      | (at_builtin; refine wpList_append_row rfl _ _ rfl w7.heap.size (.slice (some ⟨w7.heap.size, 0, none⟩) 0 0) [] rfl (OwnL.none_new w7 _ (Nat.le_refl _)) base _ H2 rfl (H7.out.2.1.later HAL.out) H7.out.2.2.2.2.2 (by simp; omega) HAL.out.size ?_; intro v8 w8 hown8 hg8; have HG8 := Lib.hid (And.intro hown8 (HAL.out.grown hg8 HAL.out.size (fun k hk => by simp only [Value.ownBlock, Option.some.injEq] at hk; omega))); clear hown8 hg8)
                      | (at_builtin; refine wpList_append_one rfl _ _ rfl w7.heap.size _ ([] ++ H2) rfl (HG8.out.1.later ((Below.refl _ _).alloc (Nat.le_refl _) _)) w8.heap.size rfl _ B (cell_of_row _ _ _ _ _ _ (heap_alloc_new _ _)) (((H7.out.2.2.1.later HG8.out.2).later ((Below.refl _ _).alloc (Nat.le_refl _) _)).up H7.out.2.2.2.2.2) (by simp; omega) (Nat.le_trans HG8.out.2.size (by simp)) ?_; intro v9 w9 hown9 hg9; have HG9 := Lib.hid (And.intro hown9 ((HG8.out.2.alloc HG8.out.2.size _).grown hg9 (Nat.le_trans HG8.out.2.size (by simp)) (fun k hk => by obtain ⟨vs, hvs, _⟩ := HG8.out.1; exact (hvs.lt k hk).1))); clear hown9 hg9))
                    obtain ⟨a9, cap9, hv9e, hl9⟩ := HG9.out.1.reads
                    generalize hm9 : ([] ++ H2 ++ [B]).length = m9 at hv9e hl9
                    subst hv9e
                    clear hm9
                    obtain ⟨ar, cr, hre, hrl⟩ := (H7.out.1.later HG9.out.2).reads
                    injection hre with hre1 _ hre2
                    subst hre1 hre2
                    obtain ⟨ar, cr, hre, hhl⟩ := (H7.out.2.1.later HG9.out.2).reads
                    injection hre with hre1 _ hre2
                    subst hre1 hre2
                    have HS1 := Lib.hid (SameLists_any _ _ _ _ _ _ R H2 w9 hrl hhl)
                    have HRL := Lib.hid (And.intro hrl hl9)
                    clear hrl hhl hl9
                    rcases HRR.out.1 with hRe | ⟨hfl, hRe⟩
                    · have hc1 : (R == H2) = true := by rw [hRe]; simp
                      rw [hc1] at HS1
                      clear hRe hc1
                      go_wp2_with fail
                      refine HS1.out.mono ?_
                      rintro e w10 ⟨rfl, q10, rfl⟩
                      have HBZ := Lib.hid (HG9.out.2.trans ((below_drewN (Below.refl w9.heap.size w9) q10).mono HG9.out.2.size))
                      generalize w9.drewN q10 = wz at HBZ ⊢
                      have HOO := Lib.hid (opened_own (w0 := w) (mb := mb) (H7.out.1.later HBZ.out) (H7.out.2.2.2.2.1.trans (HBZ.out.mono H7.out.2.2.2.2.2)) (Nat.le_trans H7.out.2.2.2.2.2 HBZ.out.size) (H7.out.2.2.2.1.later HBZ.out) HRR.out.2.2 h1 h2 h3)
                      go_wp2_with fail
                      refine HOO.out.mono ?_
                      rintro e w11 ⟨l11, v11, rfl, _, _, hv11, hh11, hd11, hlow11, hbig11, _⟩
                      obtain ⟨a11, c11, hv11e, hl11⟩ := hv11.reads
                      subst hv11e
                      obtain ⟨ar, cr, hre, hhl⟩ := hh11.reads
                      injection hre with hre1 _ hre2
                      subst hre1 hre2
                      have HS3 := Lib.hid (SameLists_any _ _ _ _ _ _ R R w11 hl11 hhl)
                      have hRR : (R == R) = true := by simp
                      rw [hRR] at HS3
                      have H11 := Lib.hid (LifeSt.mk (w0 := w) (d := d) (mb := mb) hh11 hlow11 hbig11 (.inr ⟨f, h3, hd11⟩))
                      clear hv11 hh11 hd11 hlow11 hbig11 hl11 hhl hRR HOO
                      go_wp2_with fail
                      refine HS3.out.mono ?_
                      rintro e w12 ⟨rfl, q12, rfl⟩
                      go_wp2_with fail
                      go_roundw
                      case rel => exact ⟨j + 1, R, by omega, by go_num, by have := HRR.out.2.1; omega, HRR.out.2.2, H11.out.later (below_drewN (Below.refl _ _) q12)⟩
                      case measure => simp [intOf]; omega
                    · have hc1 : (R == H2) = false := by rw [hRe]; exact ne_more H2 B
                      rw [hc1] at HS1
                      have HRE := Lib.hid hRe
                      clear hRe hc1 hfl
                      go_wp2_with fail
                      refine HS1.out.mono ?_
                      rintro e w10 ⟨rfl, q10, rfl⟩
                      have hbz := below_drewN (Below.refl w9.heap.size w9) q10
                      have HS2 := Lib.hid (SameLists_any _ _ _ _ _ _ R ([] ++ H2 ++ [B]) (w9.drewN q10) (HRL.out.1.later hbz) (HRL.out.2.later hbz))
                      have hc2 : (R == [] ++ H2 ++ [B]) = true := by rw [HRE.out]; simp
                      rw [hc2] at HS2
                      have HBY := Lib.hid (HG9.out.2.trans (hbz.mono HG9.out.2.size))
                      clear hc2 hbz
                      go_wp2_with fail
                      refine HS2.out.mono ?_
                      rintro e w10 ⟨rfl, q11, rfl⟩
                      have HBZ := Lib.hid (HBY.out.trans ((below_drewN (Below.refl (w9.drewN q10).heap.size (w9.drewN q10)) q11).mono HBY.out.size))
                      generalize (w9.drewN q10).drewN q11 = wz at HBZ ⊢
                      have HOO := Lib.hid (opened_own (w0 := w) (mb := mb) (H7.out.1.later HBZ.out) (H7.out.2.2.2.2.1.trans (HBZ.out.mono H7.out.2.2.2.2.2)) (Nat.le_trans H7.out.2.2.2.2.2 HBZ.out.size) (H7.out.2.2.2.1.later HBZ.out) HRR.out.2.2 h1 h2 h3)
                      go_wp2_with fail
                      refine HOO.out.mono ?_
                      rintro e w11 ⟨l11, v11, rfl, _, _, hv11, hh11, hd11, hlow11, hbig11, _⟩
                      obtain ⟨a11, c11, hv11e, hl11⟩ := hv11.reads
                      subst hv11e
                      obtain ⟨ar, cr, hre, hhl⟩ := hh11.reads
                      injection hre with hre1 _ hre2
                      subst hre1 hre2
                      have HS3 := Lib.hid (SameLists_any _ _ _ _ _ _ R R w11 hl11 hhl)
                      have hRR : (R == R) = true := by simp
                      rw [hRR] at HS3
                      have H11 := Lib.hid (LifeSt.mk (w0 := w) (d := d) (mb := mb) hh11 hlow11 hbig11 (.inr ⟨f, h3, hd11⟩))
                      clear hv11 hh11 hd11 hlow11 hbig11 hl11 hhl hRR HOO
                      go_wp2_with fail
                      refine HS3.out.mono ?_
                      rintro e w12 ⟨rfl, q12, rfl⟩
                      go_wp2_with fail
                      go_roundw
                      case rel => exact ⟨j + 1, R, by omega, by go_num, by have := HRR.out.2.1; omega, HRR.out.2.2, H11.out.later (below_drewN (Below.refl _ _) q12)⟩
                      case measure => simp [intOf]; omega
                  | false =>
                    clear hyes
                    go_wp2_with fail
                    refine HBR.out.mono ?_
                    rintro e w5 ⟨rfl, rfl⟩
                    go_wp2_with fail
                    refine HCR.out.mono ?_
                    rintro e w6 ⟨rfl, ⟨u, hu, hd6⟩, hm6⟩
                    obtain ⟨A, hh6, hel6, hlow6, hbig6, hdo6, hA61, hA62⟩ := HAA.out.1.crashed HAA.out.2.1 HAA.out.2.2 hm6 hd6 h1 h2 h3
                    have HOC := Lib.hid (opened_crash hh6 hel6 hlow6 hbig6 hdo6 hA61 hA62 HAA.out.1.small HAA.out.1.smallB (by omega) h1 h2 h3)
                    clear hu hd6 hm6 hh6 hel6 hlow6 hbig6 hdo6 hA61 hA62 HCR HBR
                    go_wp2_with fail
                    refine HOC.out.mono ?_
                    rintro e w7 ⟨l7, v7, R, rfl, hR, hv7, hh7, hel7, hdo7, hlow7, hbig7⟩
                    obtain ⟨a7, cap7, hv7e, _⟩ := hv7.reads
                    subst hv7e
                    have HRR := Lib.hid (And.intro hR (HAA.out.1.len_after hR))
                    have H7 := Lib.hid (And.intro hv7 (And.intro hh7 (And.intro hel7 (And.intro hdo7 (And.intro hlow7 hbig7)))))
                    clear hR hv7 hh7 hel7 hdo7 hlow7 hbig7 HOC
                    have hal : Below w7.heap.size w7 (w7.alloc (.cells #[] 24)) := (Below.refl _ _).alloc (Nat.le_refl _) _
                    have HAL := Lib.hid hal
                    clear hal
                    go_wp2_with (first
                      | (at_builtin; refine wpList_append_row rfl _ _ rfl w7.heap.size (.slice (some ⟨w7.heap.size, 0, none⟩) 0 0) [] rfl (OwnL.none_new w7 _ (Nat.le_refl _)) base _ H2 rfl (H7.out.2.1.later HAL.out) H7.out.2.2.2.2.2 (by simp; omega) HAL.out.size ?_; intro v8 w8 hown8 hg8; have HG8 := Lib.hid (And.intro hown8 (HAL.out.grown hg8 HAL.out.size (fun k hk => by simp only [Value.ownBlock, Option.some.injEq] at hk; omega))); clear hown8 hg8)
                      | (at_builtin; refine wpList_append_one rfl _ _ rfl w7.heap.size _ ([] ++ H2) rfl (HG8.out.1.later ((Below.refl _ _).alloc (Nat.le_refl _) _)) w8.heap.size rfl _ B (cell_of_row _ _ _ _ _ _ (heap_alloc_new _ _)) (((H7.out.2.2.1.later HG8.out.2).later ((Below.refl _ _).alloc (Nat.le_refl _) _)).up H7.out.2.2.2.2.2) (by simp; omega) (Nat.le_trans HG8.out.2.size (by simp)) ?_; intro v9 w9 hown9 hg9; have HG9 := Lib.hid (And.intro hown9 ((HG8.out.2.alloc HG8.out.2.size _).grown hg9 (Nat.le_trans HG8.out.2.size (by simp)) (fun k hk => by obtain ⟨vs, hvs, _⟩ := HG8.out.1; exact (hvs.lt k hk).1))); clear hown9 hg9))
                    obtain ⟨a9, cap9, hv9e, hl9⟩ := HG9.out.1.reads
                    generalize hm9 : ([] ++ H2 ++ [B]).length = m9 at hv9e hl9
                    subst hv9e
                    clear hm9
                    obtain ⟨ar, cr, hre, hrl⟩ := (H7.out.1.later HG9.out.2).reads
                    injection hre with hre1 _ hre2
                    subst hre1 hre2
                    obtain ⟨ar, cr, hre, hhl⟩ := (H7.out.2.1.later HG9.out.2).reads
                    injection hre with hre1 _ hre2
                    subst hre1 hre2
                    have HS1 := Lib.hid (SameLists_any _ _ _ _ _ _ R H2 w9 hrl hhl)
                    have HRL := Lib.hid (And.intro hrl hl9)
                    clear hrl hhl hl9
                    rcases HRR.out.1 with hRe | ⟨hfl, hRe⟩
                    · have hc1 : (R == H2) = true := by rw [hRe]; simp
                      rw [hc1] at HS1
                      clear hRe hc1
                      go_wp2_with fail
                      refine HS1.out.mono ?_
                      rintro e w10 ⟨rfl, q10, rfl⟩
                      have HBZ := Lib.hid (HG9.out.2.trans ((below_drewN (Below.refl w9.heap.size w9) q10).mono HG9.out.2.size))
                      generalize w9.drewN q10 = wz at HBZ ⊢
                      have HOO := Lib.hid (opened_own (w0 := w) (mb := mb) (H7.out.1.later HBZ.out) (H7.out.2.2.2.2.1.trans (HBZ.out.mono H7.out.2.2.2.2.2)) (Nat.le_trans H7.out.2.2.2.2.2 HBZ.out.size) (H7.out.2.2.2.1.later HBZ.out) HRR.out.2.2 h1 h2 h3)
                      go_wp2_with fail
                      refine HOO.out.mono ?_
                      rintro e w11 ⟨l11, v11, rfl, _, _, hv11, hh11, hd11, hlow11, hbig11, _⟩
                      obtain ⟨a11, c11, hv11e, hl11⟩ := hv11.reads
                      subst hv11e
                      obtain ⟨ar, cr, hre, hhl⟩ := hh11.reads
                      injection hre with hre1 _ hre2
                      subst hre1 hre2
                      have HS3 := Lib.hid (SameLists_any _ _ _ _ _ _ R R w11 hl11 hhl)
                      have hRR : (R == R) = true := by simp
                      rw [hRR] at HS3
                      have H11 := Lib.hid (LifeSt.mk (w0 := w) (d := d) (mb := mb) hh11 hlow11 hbig11 (.inr ⟨f, h3, hd11⟩))
                      clear hv11 hh11 hd11 hlow11 hbig11 hl11 hhl hRR HOO
                      go_wp2_with fail
                      refine HS3.out.mono ?_
                      rintro e w12 ⟨rfl, q12, rfl⟩
                      go_wp2_with fail
                      go_roundw
                      case rel => exact ⟨j + 1, R, by omega, by go_num, by have := HRR.out.2.1; omega, HRR.out.2.2, H11.out.later (below_drewN (Below.refl _ _) q12)⟩
                      case measure => simp [intOf]; omega
                    · cases hfl
          · obtain rfl : j = k := by omega
            go_wp2_with fail
            go_ret
            exact ⟨rfl, by rw [← HBASE.out]; exact hLS.out.low⟩
end Go.Proofs.Ytdglaacjefcfdaa
