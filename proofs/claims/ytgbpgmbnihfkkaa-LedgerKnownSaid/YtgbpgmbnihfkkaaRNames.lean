/- disk: Cut of a size that may not be, Rename that is refused -/
import Derived.Test.YtgbpgmbnihfkkaaDBad
import Derived.Test.YtgbpgmbnihfkkaaFrames
import Derived.Test.YtgbpgmbnihfkkaaRApp
import Derived.Test.YtgbpgmbnihfkkaaRow3
set_option linter.unusedSimpArgs false
set_option linter.unusedVariables false
namespace Go.Proofs.Ytgbpgmbnihfkkaa
open Go.RowKit
set_option linter.unusedSectionVars false
variable [Zone]
variable {nm : ByteArray}
set_option maxRecDepth 100000 in
theorem Cut_big (base d mb f : Nat) (z : Int) (M : List Ent) (st fu : Int) (S : List UInt8) (D : List Deed) (w : World) (hbs : base ≤ w.heap.size) (h : DiskM w st fu false d mb M) (hfo : fileOf nm M = some f) (hf : FileOwn w f base S D) (hz : ((allB S D).length : Int) < z) :
    Calls Try.prog 32 #[.pointer (some ⟨d, 0, none⟩), .string nm, .int .i64 z] w fun e w' => e = .returned (.int .i64 2) ∧ Below w.heap.size w w' := by
  obtain ⟨c, hfit', hm⟩ := h.2.2.2
  have hd := h.2.2.1
  have HO := Lib.hid (fun (w' : World) (hb : Below w.heap.size w w') => open_log d mb c f M st fu w' ((hb.block _ hd.lt).trans hd) ((hb.block _ (heap_lt hm)).trans hm) hfo)
  have HF := Lib.hid hf.at
  obtain ⟨L, hL⟩ : ∃ L, L = (allB S D).length := ⟨_, rfl⟩
  rw [← hL] at hz
  have HLL := Lib.hid hL
  clear hfo hfit' h hd hm hf hL
  have hb1 : Below w.heap.size w (w.alloc (.cells #[.int .i64 z] 3)) := (Below.refl _ _).alloc (Nat.le_refl _) _
  have hx1 := heap_alloc_new w (.cells #[.int .i64 z] 3)
  have hs1 : (w.alloc (.cells #[.int .i64 z] 3)).heap.size = w.heap.size + 1 := by simp
  have HX1 := Lib.hid (And.intro hb1 (And.intro hx1 hs1))
  clear hb1 hx1 hs1
  have hz0 : (0 : Int) ≤ z := by omega
  have hz1 : ¬ (z < 0) := by omega
  have hz2 : (L : Int) < z := by omega
  go_enter Try.func32, Try.ntmps32
  go_wp2_with fail
  refine (HO.out _ HX1.out.1).mono ?_
  rintro e w' ⟨rfl, rfl⟩
  go_wp2_with fail
  have hx2 := heap_alloc_new (w.alloc (.cells #[.int .i64 z] 3)) (.cells #[.pointer (some ⟨f, 0, none⟩)] 55)
  rw [HX1.out.2.2] at hx2
  have hb2 : Below w.heap.size w ((w.alloc (.cells #[.int .i64 z] 3)).alloc (.cells #[.pointer (some ⟨f, 0, none⟩)] 55)) := HX1.out.1.alloc HX1.out.1.size _
  have hx3 : ((w.alloc (.cells #[.int .i64 z] 3)).alloc (.cells #[.pointer (some ⟨f, 0, none⟩)] 55)).heap[w.heap.size]? = some (.cells #[.int .i64 z] 3 (0, 0)) := (Below.heap_alloc _ _ _ (by rw [HX1.out.2.2]; omega)).trans HX1.out.2.1
  obtain ⟨N, hN⟩ : ∃ N, N = w.heap.size := ⟨_, rfl⟩
  rw [← hN] at hx2 hx3 ⊢
  generalize ((w.alloc (.cells #[.int .i64 z] 3)).alloc (.cells #[.pointer (some ⟨f, 0, none⟩)] 55)) = X at hx2 hb2 hx3 ⊢
  have HXX := Lib.hid (And.intro hb2 (And.intro hx2 hx3))
  have y0 : X.cell? ⟨N, 0, none⟩ = some (.int .i64 z) := cell_of_row _ _ _ _ _ _ hx3
  have y1 : X.cell? ⟨N + 1, 0, none⟩ = some (.pointer (some ⟨f, 0, none⟩)) := cell_of_row _ _ _ _ _ _ hx2
  have HFX := Lib.hid (HF.out.later hb2)
  clear hb2 hx2 hx3 HX1 hN
  have hgd : decide (z < 0) = false := by simp; omega
  go_region_held3 (fun w' => w'.cell? ⟨N, 0, none⟩ = some (.int .i64 z) ∧ w'.cell? ⟨N + 1, 0, none⟩ = some (.pointer (some ⟨f, 0, none⟩)) ∧ Below X.heap.size X w')
    (first
      | (exact ⟨y0, y1, (Below.refl _ _).drew⟩)
      | (exact ⟨(hb2.cell (block_lt_of_cell y0)).trans y0, (hb2.cell (block_lt_of_cell y1)).trans y1, hb2⟩)
      | (go_split_ands; assumption))
    (first
      | (go_at_call 25
         go_split_ands
         refine (bytes_any f S D _ (HFX.out.later (by assumption))).mono ?_
         rintro e w2 ⟨v, rfl, hown, hb1⟩
         have hb2 : Below X.heap.size X w2 := Below.trans (by assumption) (hb1.mono (Below.size (by assumption)))
         obtain ⟨av, cv, hv, _⟩ := hown.bytes
         rw [← HLL.out] at hv
         subst hv))
  all_goals
    go_split_ands
    have hb2 : Below X.heap.size X w2 := by assumption
    have HB2 := Lib.hid hb2
    clear hb2
    go_wp2_with fail
    have hw2 : Below w.heap.size w w2 := HXX.out.1.trans (HB2.out.mono HXX.out.1.size)
    go_ret
    exact ⟨rfl, hw2⟩
set_option maxRecDepth 100000 in
theorem Cut_neg (base d mb f : Nat) (z : Int) (M : List Ent) (st fu : Int) (S : List UInt8) (D : List Deed) (w : World) (hbs : base ≤ w.heap.size) (h : DiskM w st fu false d mb M) (hfo : fileOf nm M = some f) (hf : FileOwn w f base S D) (hz : z < 0) :
    Calls Try.prog 32 #[.pointer (some ⟨d, 0, none⟩), .string nm, .int .i64 z] w fun e w' => e = .returned (.int .i64 2) ∧ Below w.heap.size w w' := by
  obtain ⟨c, hfit', hm⟩ := h.2.2.2
  have hd := h.2.2.1
  have HO := Lib.hid (fun (w' : World) (hb : Below w.heap.size w w') => open_log d mb c f M st fu w' ((hb.block _ hd.lt).trans hd) ((hb.block _ (heap_lt hm)).trans hm) hfo)
  have HF := Lib.hid hf.at
  obtain ⟨L, hL⟩ : ∃ L, L = (allB S D).length := ⟨_, rfl⟩
  have HLL := Lib.hid hL
  clear hfo hfit' h hd hm hf hL
  have hb1 : Below w.heap.size w (w.alloc (.cells #[.int .i64 z] 3)) := (Below.refl _ _).alloc (Nat.le_refl _) _
  have hx1 := heap_alloc_new w (.cells #[.int .i64 z] 3)
  have hs1 : (w.alloc (.cells #[.int .i64 z] 3)).heap.size = w.heap.size + 1 := by simp
  have HX1 := Lib.hid (And.intro hb1 (And.intro hx1 hs1))
  clear hb1 hx1 hs1
  go_enter Try.func32, Try.ntmps32
  go_wp2_with fail
  refine (HO.out _ HX1.out.1).mono ?_
  rintro e w' ⟨rfl, rfl⟩
  go_wp2_with fail
  have hx2 := heap_alloc_new (w.alloc (.cells #[.int .i64 z] 3)) (.cells #[.pointer (some ⟨f, 0, none⟩)] 55)
  rw [HX1.out.2.2] at hx2
  have hb2 : Below w.heap.size w ((w.alloc (.cells #[.int .i64 z] 3)).alloc (.cells #[.pointer (some ⟨f, 0, none⟩)] 55)) := HX1.out.1.alloc HX1.out.1.size _
  have hx3 : ((w.alloc (.cells #[.int .i64 z] 3)).alloc (.cells #[.pointer (some ⟨f, 0, none⟩)] 55)).heap[w.heap.size]? = some (.cells #[.int .i64 z] 3 (0, 0)) := (Below.heap_alloc _ _ _ (by rw [HX1.out.2.2]; omega)).trans HX1.out.2.1
  obtain ⟨N, hN⟩ : ∃ N, N = w.heap.size := ⟨_, rfl⟩
  rw [← hN] at hx2 hx3 ⊢
  generalize ((w.alloc (.cells #[.int .i64 z] 3)).alloc (.cells #[.pointer (some ⟨f, 0, none⟩)] 55)) = X at hx2 hb2 hx3 ⊢
  have HXX := Lib.hid (And.intro hb2 (And.intro hx2 hx3))
  have y0 : X.cell? ⟨N, 0, none⟩ = some (.int .i64 z) := cell_of_row _ _ _ _ _ _ hx3
  have y1 : X.cell? ⟨N + 1, 0, none⟩ = some (.pointer (some ⟨f, 0, none⟩)) := cell_of_row _ _ _ _ _ _ hx2
  have HFX := Lib.hid (HF.out.later hb2)
  clear hb2 hx2 hx3 HX1 hN
  have hgd : decide (z < 0) = true := by simp; omega
  go_quiet (fail)
  go_wp2_with fail
  go_ret
  exact ⟨rfl, below_drewN HXX.out.1 _⟩
end Go.Proofs.Ytgbpgmbnihfkkaa

/- the disk's calls, each against what it makes of what both disks hold -/
namespace Go.Proofs.Ytgbpgmbnihfkkaa
open Go.RowKit
set_option linter.unusedSectionVars false
variable [Zone]
def Fu (g : Sig) (fu : Int) : Prop := (g.fz = false ∧ fu = -1) ∨ (g.fz = true ∧ fu = g.lf ∧ 0 ≤ fu)
/-- a disk that holds it. -/
def DSig (w : World) (d mb base : Nat) (g : Sig) : Prop := ∃ M C fu, DiskG w g.N fu g.out d mb base M C ∧ Mir M C g.R ∧ Fu g fu
theorem DSig.later {w w' : World} {d mb base : Nat} {g : Sig} (h : DSig w d mb base g) (hb : Below w.heap.size w w') : DSig w' d mb base g := by
  obtain ⟨M, C, fu, h1, h2, h3⟩ := h
  exact ⟨M, C, fu, h1.later hb, h2, h3⟩
theorem DiskG.once {w : World} {st fu : Int} {out : Bool} {d mb base : Nat} {M : List Ent} {C : Cont} (h : DiskG w st fu out d mb base M C) : (M.map (·.1)).Nodup ∧ M.length ≤ 16 := by
  obtain ⟨_, _, _, c, hf, _⟩ := h.dm
  exact ⟨hf.once, hf.few⟩
theorem DSig.fit {w : World} {d mb base : Nat} {g : Sig} (h : DSig w d mb base g) : (∀ x ∈ g.R, FitF x) ∧ g.R.length ≤ 16 := by
  obtain ⟨M, C, fu, h1, h2, h3⟩ := h
  obtain ⟨hn, hl⟩ := h1.once
  refine ⟨fun x hx => ?_, by rw [h2.length hn]; exact hl⟩
  obtain ⟨f, b, hm, hc⟩ := h2.has x hx
  obtain ⟨_, _, q1, q2⟩ := h1.own _ hm
  unfold FitF
  rw [show (x.1, f, b).2.1 = f from rfl, hc] at q1 q2
  exact ⟨q1, by rw [← sum_units]; exact q2⟩
theorem DSig.lt {w : World} {d mb base : Nat} {g : Sig} (h : DSig w d mb base g) : base ≤ mb ∧ mb < d ∧ d < w.heap.size := by
  obtain ⟨M, C, fu, h1, h2, h3⟩ := h
  exact ⟨h1.low, h1.dm.2.1, h1.dm.2.2.1.lt⟩
theorem stepped_done {w' : World} {d mb base : Nat} {M : List Ent} {C : Cont} {g : Sig} {fu z : Int} {R' : List FileV} {P : Prop} (hf : Fu g fu) (h0 : 0 ≤ g.N) (h1 : g.N ≤ 1000000) (h : Stepped fu z (DiskG w' g.N fu true d mb base M C) P) (hm : Mir M C g.R)
    (hP : P → ∃ M' C', DiskG w' (wrap64 (g.N + 1)) (dec fu) false d mb base M' C' ∧ Mir M' C' R') : z = (doneG g R').1 ∧ DSig w' d mb base (doneG g R').2 := by
  unfold doneG
  rcases h with ⟨q1, q2, q3⟩ | ⟨q1, q2, q3⟩
  · have hc : g.fz = true ∧ g.lf = 0 := by
      rcases hf with ⟨_, e⟩ | ⟨a, b, _⟩
      · omega
      · exact ⟨a, by omega⟩
    rw [if_pos hc]
    exact ⟨q2, M, C, fu, q3, hm, hf⟩
  · have hc : ¬ (g.fz = true ∧ g.lf = 0) := by
      rintro ⟨a, b⟩
      rcases hf with ⟨c, _⟩ | ⟨_, c, _⟩
      · rw [a] at c; cases c
      · omega
    rw [if_neg hc]
    obtain ⟨M', C', r1, r2⟩ := hP q3
    have e : wrap64 (g.N + 1) = g.N + 1 := by unfold wrap64; omega
    rw [e] at r1
    refine ⟨q2, M', C', dec fu, r1, r2, ?_⟩
    unfold dec
    rcases hf with ⟨a, b⟩ | ⟨a, b, c⟩
    · exact .inl ⟨a, by rw [if_neg (by omega)]; exact b⟩
    · refine .inr ⟨a, ?_, ?_⟩
      · show _ = if g.fz = true then g.lf - 1 else g.lf
        rw [if_pos (by omega), if_pos a, b]
      · rw [if_pos (by omega)]; omega
theorem laid_addB (D : List Deed) (n : Nat) (B : List UInt8) (h : B.length = n) : laid D n B = D ++ addB B := by
  unfold laid addB
  cases B with
  | nil => rw [if_pos (by simpa using h.symm)]; simp
  | cons b B => rw [if_neg (by rw [← h]; simp)]; simp
/-- refused calls. -/
theorem DSig.refused {w w' : World} {d mb base : Nat} {g : Sig} (h : DSig w d mb base g) (hb : base ≤ w.heap.size) (hw : Below w.heap.size w w') : DSig w' d mb base g ∧ Kept d mb base w w' := ⟨h.later hw, .of_below hw hb⟩
theorem Append_S (s : ByteArray) (hss : s.size ≤ 1099511627776) (d mb base q k : Nat) (g : Sig) (ao : Option Addr) (n cap : Nat) (B : List UInt8) (w : World) (hb : base ≤ w.heap.size) (h : DSig w d mb base g) (hl : Lim q k g) (hq : q + B.length ≤ 4294967296) (hk : k ≤ 1000000) (hB : IsBytes w ao n cap B) :
    Calls Try.prog 10 #[.pointer (some ⟨d, 0, none⟩), .string s, .slice ao n cap] w fun e w' => e = .returned (.int .i64 (appG s B g).1) ∧ DSig w' d mb base (appG s B g).2 ∧ Kept d mb base w w' := by
  obtain ⟨M, C, fu, h1, h2, h3⟩ := id h
  obtain ⟨hn, hm16⟩ := h1.once
  have hN0 := hl.n0
  have hN1 := hl.n1
  have hBn := hB.1
  unfold appG
  split
  · rename_i ho
    have hd := h1.dm.2.2.1
    rw [ho] at hd
    refine (Append_out d mb _ fu ao n cap w hd).mono ?_
    rintro e w' ⟨rfl, hw⟩
    exact ⟨rfl, h.refused hb hw⟩
  rename_i ho
  have ho : g.out = false := by simpa using ho
  rw [ho] at h1
  split
  · rename_i hnf
    refine (Append_bad d mb M _ fu ao n cap w hss hnf h1.dm).mono ?_
    rintro e w' ⟨rfl, hw⟩
    exact ⟨rfl, h.refused hb hw⟩
  rename_i hnf
  have hnf : nameP s.data.toList = true := by simpa using hnf
  have hz := atZ_is s g.R
  split
  · rename_i hneg
    obtain ⟨hfo, hno⟩ := h2.no hz hneg
    have hRl := h2.length hn
    split
    · rename_i h16
      refine (Append_full base d mb M _ fu ao n cap B w hb hnf h1.dm hfo (by omega) hB h1.zone).mono ?_
      rintro e w' ⟨rfl, hw⟩
      exact ⟨rfl, h.refused hb hw⟩
    · rename_i h16
      split
      · rename_i hlong
        refine (Append_long_new base d mb M _ fu ao n cap B w hb hnf h1.dm hfo (by omega) hB h1.zone (by omega)).mono ?_
        rintro e w' ⟨rfl, hw⟩
        exact ⟨rfl, h.refused hb hw⟩
      · rename_i hlong
        refine (Append_G_new d mb base M C _ fu ao n cap B w hb hnf h1 hfo (by omega) hB (by omega)).mono ?_
        rintro e w' ⟨z, rfl, hs, hk9⟩
        obtain ⟨e1, e2⟩ := stepped_done (R' := insF g.R (insK s g.R) (s, [], addB B)) h3 hN0 (by omega) hs h2 (fun ⟨f, c, hfw, hg⟩ => by
          refine ⟨_, _, hg, ?_⟩
          rw [laid_addB _ _ _ hBn]
          exact h2.new hno (fun y hy => by have := (h1.own y hy).2.at.lt; omega) (insK_is s g.R))
        exact ⟨by rw [e1], e2, hk9⟩
  · rename_i hneg
    obtain ⟨f, b, hfm, hfo, hC, hzl, hze⟩ := h2.at hn hz (by omega)
    obtain ⟨i, hi⟩ : ∃ i, i = (atZ s g.R).toNat := ⟨_, rfl⟩
    rw [← hi] at hC hzl hze ⊢
    have hg9 := hl.get i
    split
    · rename_i hlong
      refine (Append_long_old base d mb f M _ fu (C f).1 (C f).2 ao n cap B w hb hnf h1.dm hfo (h1.file hfo).2 hB h1.zone (by rw [allB_run, hC]; omega) (by rw [hC]; omega) (by rw [hC]; omega)).mono ?_
      rintro e w' ⟨rfl, hw⟩
      exact ⟨rfl, h.refused hb hw⟩
    · rename_i hlong
      refine (Append_G_old d mb base f M C _ fu ao n cap B w hb hnf h1 hfo hB (by rw [hC]; omega) (by rw [hC]; omega) (by rw [hC]; omega)).mono ?_
      rintro e w' ⟨z, rfl, hs, hk9⟩
      obtain ⟨e1, e2⟩ := stepped_done (R' := g.R.set i ((g.R.getD i f0).1, (g.R.getD i f0).2.1, (g.R.getD i f0).2.2 ++ addB B)) h3 hN0 (by omega) hs h2 (fun hg => by
        refine ⟨_, _, hg, ?_⟩
        rw [laid_addB _ _ _ hBn, hC]
        exact h2.set hn h1.apart hzl hfm hze _)
      exact ⟨by rw [e1], e2, hk9⟩
theorem Cut_S (s : ByteArray) (sz : Int) (d mb base q k : Nat) (g : Sig) (w : World) (hb : base ≤ w.heap.size) (h : DSig w d mb base g) (hl : Lim q k g) (hq : q + 1 ≤ 4294967296) (hk : k ≤ 1000000) :
    Calls Try.prog 32 #[.pointer (some ⟨d, 0, none⟩), .string s, .int .i64 sz] w fun e w' => e = .returned (.int .i64 (cutG s sz g).1) ∧ DSig w' d mb base (cutG s sz g).2 ∧ Kept d mb base w w' := by
  obtain ⟨M, C, fu, h1, h2, h3⟩ := id h
  obtain ⟨hn, hm16⟩ := h1.once
  have hN0 := hl.n0
  have hN1 := hl.n1
  unfold cutG
  split
  · rename_i ho
    have hd := h1.dm.2.2.1
    rw [ho] at hd
    refine (Cut_ref d 10 sz w (.inr rfl) (NoOpen.of_out d mb _ fu s w hd)).mono ?_
    rintro e w' ⟨rfl, hw⟩
    exact ⟨rfl, h.refused hb hw⟩
  rename_i ho
  have ho : g.out = false := by simpa using ho
  rw [ho] at h1
  have hz := atZ_is s g.R
  split
  · rename_i hneg
    obtain ⟨hfo, hno⟩ := h2.no hz hneg
    refine (Cut_ref d 6 sz w (.inl rfl) (NoOpen.of_none d mb M _ fu w h1.dm hfo)).mono ?_
    rintro e w' ⟨rfl, hw⟩
    exact ⟨rfl, h.refused hb hw⟩
  rename_i hneg
  obtain ⟨f, b, hfm, hfo, hC, hzl, hze⟩ := h2.at hn hz (by omega)
  obtain ⟨i, hi⟩ : ∃ i, i = (atZ s g.R).toNat := ⟨_, rfl⟩
  rw [← hi] at hC hzl hze ⊢
  have hg9 := hl.get i
  split
  · rename_i hsz
    by_cases h0 : sz < 0
    · refine (Cut_neg base d mb f sz M _ fu (C f).1 (C f).2 w hb h1.dm hfo (h1.file hfo).2 h0).mono ?_
      rintro e w' ⟨rfl, hw⟩
      exact ⟨rfl, h.refused hb hw⟩
    · refine (Cut_big base d mb f sz M _ fu (C f).1 (C f).2 w hb h1.dm hfo (h1.file hfo).2 (by rw [allB_run, hC]; omega)).mono ?_
      rintro e w' ⟨rfl, hw⟩
      exact ⟨rfl, h.refused hb hw⟩
  · rename_i hsz
    have hG := Cut_G (nm := s) d mb base f sz.toNat M C _ fu w hb h1 hfo (by rw [hC]; omega) (by rw [hC]; omega) (by rw [hC]; omega)
    rw [Int.toNat_of_nonneg (by omega)] at hG
    refine hG.mono ?_
    rintro e w' ⟨z, rfl, hs, hk9⟩
    obtain ⟨e1, e2⟩ := stepped_done (R' := g.R.set i ((g.R.getD i f0).1, (g.R.getD i f0).2.1, (g.R.getD i f0).2.2 ++ [.cut sz.toNat])) h3 hN0 (by omega) hs h2 (fun hg => by
      refine ⟨_, _, hg, ?_⟩
      rw [hC]
      exact h2.set hn h1.apart hzl hfm hze _)
    exact ⟨by rw [e1], e2, hk9⟩
theorem Sync_S (s : ByteArray) (d mb base q k : Nat) (g : Sig) (w : World) (hb : base ≤ w.heap.size) (h : DSig w d mb base g) (hl : Lim q k g) (hk : k ≤ 1000000) :
    Calls Try.prog 18 #[.pointer (some ⟨d, 0, none⟩), .string s] w fun e w' => e = .returned (.int .i64 (syncG s g).1) ∧ DSig w' d mb base (syncG s g).2 ∧ Kept d mb base w w' := by
  obtain ⟨M, C, fu, h1, h2, h3⟩ := id h
  obtain ⟨hn, hm16⟩ := h1.once
  have hN0 := hl.n0
  have hN1 := hl.n1
  unfold syncG
  split
  · rename_i ho
    have hd := h1.dm.2.2.1
    rw [ho] at hd
    refine (Sync_ref d 10 w (.inr rfl) (NoOpen.of_out d mb _ fu s w hd)).mono ?_
    rintro e w' ⟨rfl, hw⟩
    exact ⟨rfl, h.refused hb hw⟩
  rename_i ho
  have ho : g.out = false := by simpa using ho
  rw [ho] at h1
  have hz := atZ_is s g.R
  split
  · rename_i hneg
    obtain ⟨hfo, hno⟩ := h2.no hz hneg
    refine (Sync_ref d 6 w (.inl rfl) (NoOpen.of_none d mb M _ fu w h1.dm hfo)).mono ?_
    rintro e w' ⟨rfl, hw⟩
    exact ⟨rfl, h.refused hb hw⟩
  rename_i hneg
  obtain ⟨f, b, hfm, hfo, hC, hzl, hze⟩ := h2.at hn hz (by omega)
  obtain ⟨i, hi⟩ : ∃ i, i = (atZ s g.R).toNat := ⟨_, rfl⟩
  rw [← hi] at hC hzl hze ⊢
  refine (Sync_G (nm := s) d mb base f M C _ fu w hb h1 hfo).mono ?_
  rintro e w' ⟨z, rfl, hs, hk9⟩
  obtain ⟨e1, e2⟩ := stepped_done (R' := g.R.set i ((g.R.getD i f0).1, runD (g.R.getD i f0).2.1 (g.R.getD i f0).2.2, [])) h3 hN0 (by omega) hs h2 (fun hg => by
    refine ⟨_, _, hg, ?_⟩
    rw [hC]
    exact h2.set hn h1.apart hzl hfm hze _)
  exact ⟨by rw [e1], e2, hk9⟩
theorem Fuse_S (n : Int) (hn1 : n ≤ 9223372036854775807) (d mb base : Nat) (g : Sig) (w : World) (hb : base ≤ w.heap.size) (h : DSig w d mb base g) :
    Calls Try.prog 7 #[.pointer (some ⟨d, 0, none⟩), .int .i64 n] w fun e w' => e = .returned (.int .i64 (fuseG n g).1) ∧ DSig w' d mb base (fuseG n g).2 ∧ Kept d mb base w w' := by
  obtain ⟨M, C, fu, h1, h2, h3⟩ := h
  unfold fuseG
  refine (Fuse_G d mb base M C n _ fu g.out w hb hn1 h1).mono ?_
  rintro e w' ⟨(⟨q1, rfl, q2⟩ | ⟨q1, rfl, q2⟩), hk⟩
  · rw [if_pos q1]
    exact ⟨rfl, ⟨M, C, fu, q2, h2, h3⟩, hk⟩
  · rw [if_neg (by omega)]
    exact ⟨rfl, ⟨M, C, n, q2, h2, .inr ⟨rfl, rfl, q1⟩⟩, hk⟩
end Go.Proofs.Ytgbpgmbnihfkkaa

/- the reference's disk: Names -/
namespace Go.Proofs.Ytgbpgmbnihfkkaa
open Go.RowKit
set_option linter.unusedSectionVars false
variable [Zone]
theorem Try.infoString : (Try.prog.info? 9).map (fun i => (i.zero, i.size, i.bytes)) = some (some (.string ⟨#[]⟩), 1, 16) := by kernel_rfl
/-- own strings. -/
def OwnT (w : World) (base : Nat) (v : Value) (L : List ByteArray) : Prop := w.ownsRow base 9 1 v L.length (L.map Value.string)
theorem OwnT.nil (w : World) (base : Nat) : OwnT w base (.slice none 0 0) [] := World.ownsRow_nil _ _ _ _
theorem OwnT.lt {w : World} {base : Nat} {v : Value} {L : List ByteArray} (h : OwnT w base v L) (g : Nat) (hg : v.ownBlock = some g) : base ≤ g ∧ g < w.heap.size := World.ownsRow.lt h g hg
theorem OwnT.later {w w' : World} {base : Nat} {v : Value} {L : List ByteArray} (h : OwnT w base v L) (hb : Below w.heap.size w w') : OwnT w' base v L := ownsRow_move h fun g hg => hb.block g (h.lt g hg).2
theorem OwnT.texts {w : World} {base : Nat} {v : Value} {L : List ByteArray} (h : OwnT w base v L) : ∃ a cap, v = .slice a L.length cap ∧ IsTexts w a L.length cap L := by
  rcases h.2 with ⟨rfl, h0⟩ | ⟨g, cap, cur, rfl, hb, hg, hn, hm, hs, ht⟩
  · exact ⟨none, 0, by rw [h0], rfl, by omega, by unfold maxLen; omega, fun hp => absurd hp (by omega)⟩
  · refine ⟨_, cap, rfl, rfl, hn, hm, fun _ => ⟨g, 0, rfl, fun i hi => ?_⟩⟩
    have hc := h.cells (g := g) rfl i (.string L[i]) (by rw [List.getElem?_map, List.getElem?_eq_getElem hi]; rfl)
    have he : (⟨g, 0, none⟩ : Addr).add i = ⟨g, 0 + i, none⟩ := by unfold Addr.add; split <;> simp_all
    rw [he] at hc
    rw [hc, List.getD_eq_getElem?_getD, List.getElem?_eq_getElem hi]
    rfl
theorem run_append_text {w : World} (ty base : Nat) (v : Value) (L : List ByteArray) (hown : OwnT w base v L) (g c : Nat) (x : ByteArray) (hx : w.cell? ⟨g, 0, none⟩ = some (.string x)) (hnm : L.length ≤ 1000000) (hbase : base ≤ w.heap.size) :
    ∃ v' w', (Builtin.append_ #[53, 53] ty #[v, .slice (some ⟨g, 0, none⟩) 1 c]).run Try.prog w = .ok v' w' ∧ OwnT w' base v' (L ++ [x]) ∧ w.grownBy w' v.ownBlock := by
  obtain ⟨i0, hi, hz0, hz1, hz2⟩ := info_parts Try.infoString
  obtain ⟨v', w', hr, h2, h3, _⟩ := run_append_own (P := Try.prog) w base 53 ty _ i0 (.string ⟨#[]⟩) 1 16 Try.underlying53 hi hz0 hz1 hz2 rfl (by decide) v _ _ hown ⟨g, 0, none⟩ 1 c [.string x] rfl
    (fun j y hy => by
      cases j with
      | zero => simp at hy; subst hy; have : (⟨g, 0, none⟩ : Addr).add 0 = ⟨g, 0, none⟩ := by simp [Addr.add]
                rw [this]; exact hx
      | succ j => simp at hy)
    (fun y hy => by simp at hy; subst hy; rfl) (Nat.le_trans (Nat.add_le_add_right hnm 1) (by unfold maxLen; omega)) (by omega) hbase
  refine ⟨v', w', hr, ?_, h3⟩
  unfold OwnT
  rw [List.map_append, List.length_append]
  exact h2
theorem wpList_append_text {w : World} {ops : Array Oper} {rest : List Oper} {o : Oper} {a : Act} {Q : Exit → Act → World → Prop} (hgd : o.guard = none) (s x : Operand)
    (ho : o.op = .call { callee := .builtin .append, args := #[s, x], argTypes := #[53, 53] })
    (base : Nat) (v : Value) (L : List ByteArray) (hs : a.eval s = v) (hown : OwnT w base v L) (g c : Nat) (y : ByteArray) (hx : a.eval x = .slice (some ⟨g, 0, none⟩) 1 c) (hy : w.cell? ⟨g, 0, none⟩ = some (.string y)) (hnm : L.length ≤ 1000000) (hbase : base ≤ w.heap.size)
    (h : ∀ v' w', OwnT w' base v' (L ++ [y]) → w.grownBy w' v.ownBlock → wpList Try.prog ops Q rest (a.put o.dst v') w') : wpList Try.prog ops Q (o :: rest) a w := by
  obtain ⟨v', w', hr, h2, h3⟩ := run_append_text o.type base v L hown g c y hy hnm hbase
  refine wpList_plain hgd fun K hK => ?_
  unfold Oper.wp execOp
  simp only [ho, resolve, invoke, builtin, Sem.run_bind, Sem.run_pure, Result.andThen_ok, List.map_toArray, List.map_cons, List.map_nil, hs, hx, hr]
  exact hK _ _ (h v' w' h2 h3)
end Go.Proofs.Ytgbpgmbnihfkkaa
