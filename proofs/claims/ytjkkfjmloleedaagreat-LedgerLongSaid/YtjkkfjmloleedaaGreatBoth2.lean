/- disk: Cut of a size that may not be, Rename that is refused -/
import Derived.Test.YtjkkfjmloleedaaGreatDBad
import Derived.Test.YtjkkfjmloleedaaGreatFrames
import Derived.Test.YtjkkfjmloleedaaGreatRStep
import Derived.Test.YtjkkfjmloleedaaGreatRow3
set_option linter.unusedSimpArgs false
set_option linter.unusedVariables false
namespace Go.Proofs.YtjkkfjmloleedaaGreat
open Go.RowKit
set_option linter.unusedSectionVars false
variable [Zone]
variable {nm : ByteArray}
set_option maxRecDepth 100000 in
theorem Cut_big (base d mb f : Nat) (z : Int) (M : List Ent) (st fu : Int) (S : List UInt8) (D : List Deed) (w : World) (hbs : base ≤ w.heap.size) (h : DiskM w st fu false d mb M) (hfo : fileOf nm M = some f) (hf : FileOwn w f base S D) (hz : ((allB S D).length : Int) < z) :
    Calls Tryz.prog 22 #[.pointer (some ⟨d, 0, none⟩), .string nm, .int .i64 z] w fun e w' => e = .returned (.int .i64 2) ∧ Below w.heap.size w w' := by
  obtain ⟨c, hfit', hm⟩ := h.2.2.2
  have hd := h.2.2.1
  have HO := Lib.hid (fun (w' : World) (hb : Below w.heap.size w w') => open_log d mb c f M st fu w' ((hb.block _ hd.lt).trans hd) ((hb.block _ (heap_lt hm)).trans hm) hfo)
  have HF := Lib.hid hf.at
  obtain ⟨L, hL⟩ : ∃ L, L = (allB S D).length := ⟨_, rfl⟩
  rw [← hL] at hz
  have HLL := Lib.hid hL
  clear hfo hfit' h hd hm hf hL
  have hb1 : Below w.heap.size w (w.alloc (.cells #[.int .i64 z] 3)) := (Below.refl _ _).alloc (Nat.le_refl _) _
  have hx1 := heap_alloc_new w (.cells #[.int .i64 z] 3)
  have hs1 : (w.alloc (.cells #[.int .i64 z] 3)).heap.size = w.heap.size + 1 := by simp
  have HX1 := Lib.hid (And.intro hb1 (And.intro hx1 hs1))
  clear hb1 hx1 hs1
  have hz0 : (0 : Int) ≤ z := by omega
  have hz1 : ¬ (z < 0) := by omega
  have hz2 : (L : Int) < z := by omega
  go_enter Tryz.func22, Tryz.ntmps22
  go_wp2_with fail
  refine (HO.out _ HX1.out.1).mono ?_
  rintro e w' ⟨rfl, rfl⟩
  go_wp2_with fail
  have hx2 := heap_alloc_new (w.alloc (.cells #[.int .i64 z] 3)) (.cells #[.pointer (some ⟨f, 0, none⟩)] 82)
  rw [HX1.out.2.2] at hx2
  have hb2 : Below w.heap.size w ((w.alloc (.cells #[.int .i64 z] 3)).alloc (.cells #[.pointer (some ⟨f, 0, none⟩)] 82)) := HX1.out.1.alloc HX1.out.1.size _
  have hx3 : ((w.alloc (.cells #[.int .i64 z] 3)).alloc (.cells #[.pointer (some ⟨f, 0, none⟩)] 82)).heap[w.heap.size]? = some (.cells #[.int .i64 z] 3 (0, 0)) := (Below.heap_alloc _ _ _ (by rw [HX1.out.2.2]; omega)).trans HX1.out.2.1
  obtain ⟨N, hN⟩ : ∃ N, N = w.heap.size := ⟨_, rfl⟩
  rw [← hN] at hx2 hx3 ⊢
  generalize ((w.alloc (.cells #[.int .i64 z] 3)).alloc (.cells #[.pointer (some ⟨f, 0, none⟩)] 82)) = X at hx2 hb2 hx3 ⊢
  have HXX := Lib.hid (And.intro hb2 (And.intro hx2 hx3))
  have y0 : X.cell? ⟨N, 0, none⟩ = some (.int .i64 z) := cell_of_row _ _ _ _ _ _ hx3
  have y1 : X.cell? ⟨N + 1, 0, none⟩ = some (.pointer (some ⟨f, 0, none⟩)) := cell_of_row _ _ _ _ _ _ hx2
  have HFX := Lib.hid (HF.out.later hb2)
  clear hb2 hx2 hx3 HX1 hN
  have hgd : decide (z < 0) = false := by simp; omega
  go_region_held3 (fun w' => w'.cell? ⟨N, 0, none⟩ = some (.int .i64 z) ∧ w'.cell? ⟨N + 1, 0, none⟩ = some (.pointer (some ⟨f, 0, none⟩)) ∧ Below X.heap.size X w')
    (first
      | (exact ⟨y0, y1, (Below.refl _ _).drew⟩)
      | (exact ⟨(hb2.cell (block_lt_of_cell y0)).trans y0, (hb2.cell (block_lt_of_cell y1)).trans y1, hb2⟩)
      | (go_split_ands; assumption))
    (first
      | (go_at_call 58
         go_split_ands
         refine (bytes_any f S D _ (HFX.out.later (by assumption))).mono ?_
         rintro e w2 ⟨v, rfl, hown, hb1⟩
         have hb2 : Below X.heap.size X w2 := Below.trans (by assumption) (hb1.mono (Below.size (by assumption)))
         obtain ⟨av, cv, hv, _⟩ := hown.bytes
         rw [← HLL.out] at hv
         subst hv))
  all_goals
    go_split_ands
    have hb2 : Below X.heap.size X w2 := by assumption
    have HB2 := Lib.hid hb2
    clear hb2
    go_wp2_with fail
    have hw2 : Below w.heap.size w w2 := HXX.out.1.trans (HB2.out.mono HXX.out.1.size)
    go_ret
    exact ⟨rfl, hw2⟩
set_option maxRecDepth 100000 in
theorem Cut_neg (base d mb f : Nat) (z : Int) (M : List Ent) (st fu : Int) (S : List UInt8) (D : List Deed) (w : World) (hbs : base ≤ w.heap.size) (h : DiskM w st fu false d mb M) (hfo : fileOf nm M = some f) (hf : FileOwn w f base S D) (hz : z < 0) :
    Calls Tryz.prog 22 #[.pointer (some ⟨d, 0, none⟩), .string nm, .int .i64 z] w fun e w' => e = .returned (.int .i64 2) ∧ Below w.heap.size w w' := by
  obtain ⟨c, hfit', hm⟩ := h.2.2.2
  have hd := h.2.2.1
  have HO := Lib.hid (fun (w' : World) (hb : Below w.heap.size w w') => open_log d mb c f M st fu w' ((hb.block _ hd.lt).trans hd) ((hb.block _ (heap_lt hm)).trans hm) hfo)
  have HF := Lib.hid hf.at
  obtain ⟨L, hL⟩ : ∃ L, L = (allB S D).length := ⟨_, rfl⟩
  have HLL := Lib.hid hL
  clear hfo hfit' h hd hm hf hL
  have hb1 : Below w.heap.size w (w.alloc (.cells #[.int .i64 z] 3)) := (Below.refl _ _).alloc (Nat.le_refl _) _
  have hx1 := heap_alloc_new w (.cells #[.int .i64 z] 3)
  have hs1 : (w.alloc (.cells #[.int .i64 z] 3)).heap.size = w.heap.size + 1 := by simp
  have HX1 := Lib.hid (And.intro hb1 (And.intro hx1 hs1))
  clear hb1 hx1 hs1
  go_enter Tryz.func22, Tryz.ntmps22
  go_wp2_with fail
  refine (HO.out _ HX1.out.1).mono ?_
  rintro e w' ⟨rfl, rfl⟩
  go_wp2_with fail
  have hx2 := heap_alloc_new (w.alloc (.cells #[.int .i64 z] 3)) (.cells #[.pointer (some ⟨f, 0, none⟩)] 82)
  rw [HX1.out.2.2] at hx2
  have hb2 : Below w.heap.size w ((w.alloc (.cells #[.int .i64 z] 3)).alloc (.cells #[.pointer (some ⟨f, 0, none⟩)] 82)) := HX1.out.1.alloc HX1.out.1.size _
  have hx3 : ((w.alloc (.cells #[.int .i64 z] 3)).alloc (.cells #[.pointer (some ⟨f, 0, none⟩)] 82)).heap[w.heap.size]? = some (.cells #[.int .i64 z] 3 (0, 0)) := (Below.heap_alloc _ _ _ (by rw [HX1.out.2.2]; omega)).trans HX1.out.2.1
  obtain ⟨N, hN⟩ : ∃ N, N = w.heap.size := ⟨_, rfl⟩
  rw [← hN] at hx2 hx3 ⊢
  generalize ((w.alloc (.cells #[.int .i64 z] 3)).alloc (.cells #[.pointer (some ⟨f, 0, none⟩)] 82)) = X at hx2 hb2 hx3 ⊢
  have HXX := Lib.hid (And.intro hb2 (And.intro hx2 hx3))
  have y0 : X.cell? ⟨N, 0, none⟩ = some (.int .i64 z) := cell_of_row _ _ _ _ _ _ hx3
  have y1 : X.cell? ⟨N + 1, 0, none⟩ = some (.pointer (some ⟨f, 0, none⟩)) := cell_of_row _ _ _ _ _ _ hx2
  have HFX := Lib.hid (HF.out.later hb2)
  clear hb2 hx2 hx3 HX1 hN
  have hgd : decide (z < 0) = true := by simp; omega
  go_quiet (fail)
  go_wp2_with fail
  go_ret
  exact ⟨rfl, below_drewN HXX.out.1 _⟩
end Go.Proofs.YtjkkfjmloleedaaGreat

/- the disk's calls, each against what it makes of what both disks hold -/
namespace Go.Proofs.YtjkkfjmloleedaaGreat
open Go.RowKit
set_option linter.unusedSectionVars false
variable [Zone]
def Fu (g : Sig) (fu : Int) : Prop := (g.fz = false ∧ fu = -1) ∨ (g.fz = true ∧ fu = g.lf ∧ 0 ≤ fu)
/-- a disk that holds it. -/
def DSig (w : World) (d mb base : Nat) (g : Sig) : Prop := ∃ M C fu, DiskG w g.N fu g.out d mb base M C ∧ Mir M C g.R ∧ Fu g fu
/-- the reference's. -/
def RSig (w : World) (r base : Nat) (g : Sig) : Prop := RefAt w r base g.R g.N g.fz g.lf g.out
theorem DSig.later {w w' : World} {d mb base : Nat} {g : Sig} (h : DSig w d mb base g) (hb : Below w.heap.size w w') : DSig w' d mb base g := by
  obtain ⟨M, C, fu, h1, h2, h3⟩ := h
  exact ⟨M, C, fu, h1.later hb, h2, h3⟩
theorem RSig.later {w w' : World} {r base : Nat} {g : Sig} (h : RSig w r base g) (hb : Below w.heap.size w w') : RSig w' r base g := RefAt.later h hb
theorem DiskG.once {w : World} {st fu : Int} {out : Bool} {d mb base : Nat} {M : List Ent} {C : Cont} (h : DiskG w st fu out d mb base M C) : (M.map (·.1)).Nodup ∧ M.length ≤ 16 := by
  obtain ⟨_, _, _, c, hf, _⟩ := h.dm
  exact ⟨hf.once, hf.few⟩
theorem DSig.fit {w : World} {d mb base : Nat} {g : Sig} (h : DSig w d mb base g) : (∀ x ∈ g.R, FitF x) ∧ g.R.length ≤ 16 := by
  obtain ⟨M, C, fu, h1, h2, h3⟩ := h
  obtain ⟨hn, hl⟩ := h1.once
  refine ⟨fun x hx => ?_, by rw [h2.length hn]; exact hl⟩
  obtain ⟨f, b, hm, hc⟩ := h2.has x hx
  obtain ⟨_, _, q1, q2⟩ := h1.own _ hm
  unfold FitF
  rw [show (x.1, f, b).2.1 = f from rfl, hc] at q1 q2
  exact ⟨q1, by rw [← sum_units]; exact q2⟩
theorem DSig.lt {w : World} {d mb base : Nat} {g : Sig} (h : DSig w d mb base g) : base ≤ mb ∧ mb < d ∧ d < w.heap.size := by
  obtain ⟨M, C, fu, h1, h2, h3⟩ := h
  exact ⟨h1.low, h1.dm.2.1, h1.dm.2.2.1.lt⟩
theorem stepped_done {w' : World} {d mb base : Nat} {M : List Ent} {C : Cont} {g : Sig} {fu z : Int} {R' : List FileV} {P : Prop} (hf : Fu g fu) (h0 : 0 ≤ g.N) (h1 : g.N ≤ 1000000) (h : Stepped fu z (DiskG w' g.N fu true d mb base M C) P) (hm : Mir M C g.R)
    (hP : P → ∃ M' C', DiskG w' (wrap64 (g.N + 1)) (dec fu) false d mb base M' C' ∧ Mir M' C' R') : z = (doneG g R').1 ∧ DSig w' d mb base (doneG g R').2 := by
  unfold doneG
  rcases h with ⟨q1, q2, q3⟩ | ⟨q1, q2, q3⟩
  · have hc : g.fz = true ∧ g.lf = 0 := by
      rcases hf with ⟨_, e⟩ | ⟨a, b, _⟩
      · omega
      · exact ⟨a, by omega⟩
    rw [if_pos hc]
    exact ⟨q2, M, C, fu, q3, hm, hf⟩
  · have hc : ¬ (g.fz = true ∧ g.lf = 0) := by
      rintro ⟨a, b⟩
      rcases hf with ⟨c, _⟩ | ⟨_, c, _⟩
      · rw [a] at c; cases c
      · omega
    rw [if_neg hc]
    obtain ⟨M', C', r1, r2⟩ := hP q3
    have e : wrap64 (g.N + 1) = g.N + 1 := by unfold wrap64; omega
    rw [e] at r1
    refine ⟨q2, M', C', dec fu, r1, r2, ?_⟩
    unfold dec
    rcases hf with ⟨a, b⟩ | ⟨a, b, c⟩
    · exact .inl ⟨a, by rw [if_neg (by omega)]; exact b⟩
    · refine .inr ⟨a, ?_, ?_⟩
      · show _ = if g.fz = true then g.lf - 1 else g.lf
        rw [if_pos (by omega), if_pos a, b]
      · rw [if_pos (by omega)]; omega
theorem laid_addB (D : List Deed) (n : Nat) (B : List UInt8) (h : B.length = n) : laid D n B = D ++ addB B := by
  unfold laid addB
  cases B with
  | nil => rw [if_pos (by simpa using h.symm)]; simp
  | cons b B => rw [if_neg (by rw [← h]; simp)]; simp
/-- refused calls. -/
theorem DSig.refused {w w' : World} {d mb base : Nat} {g : Sig} (h : DSig w d mb base g) (hb : base ≤ w.heap.size) (hw : Below w.heap.size w w') : DSig w' d mb base g ∧ Kept d mb base w w' := ⟨h.later hw, .of_below hw hb⟩
theorem Append_S (s : ByteArray) (hss : s.size ≤ 1099511627776) (d mb base q k : Nat) (g : Sig) (ao : Option Addr) (n cap : Nat) (B : List UInt8) (w : World) (hb : base ≤ w.heap.size) (h : DSig w d mb base g) (hl : Lim q k g) (hq : q + B.length ≤ 4294967296) (hk : k ≤ 1000000) (hB : IsBytes w ao n cap B) :
    Calls Tryz.prog 20 #[.pointer (some ⟨d, 0, none⟩), .string s, .slice ao n cap] w fun e w' => e = .returned (.int .i64 (appG s B g).1) ∧ DSig w' d mb base (appG s B g).2 ∧ Kept d mb base w w' := by
  obtain ⟨M, C, fu, h1, h2, h3⟩ := id h
  obtain ⟨hn, hm16⟩ := h1.once
  have hN0 := hl.n0
  have hN1 := hl.n1
  have hBn := hB.1
  unfold appG
  split
  · rename_i ho
    have hd := h1.dm.2.2.1
    rw [ho] at hd
    refine (Append_out d mb _ fu ao n cap w hd).mono ?_
    rintro e w' ⟨rfl, hw⟩
    exact ⟨rfl, h.refused hb hw⟩
  rename_i ho
  have ho : g.out = false := by simpa using ho
  rw [ho] at h1
  split
  · rename_i hnf
    refine (Append_bad d mb M _ fu ao n cap w hss hnf h1.dm).mono ?_
    rintro e w' ⟨rfl, hw⟩
    exact ⟨rfl, h.refused hb hw⟩
  rename_i hnf
  have hnf : nameP s.data.toList = true := by simpa using hnf
  have hz := atZ_is s g.R
  split
  · rename_i hneg
    obtain ⟨hfo, hno⟩ := h2.no hz hneg
    have hRl := h2.length hn
    split
    · rename_i h16
      refine (Append_full base d mb M _ fu ao n cap B w hb hnf h1.dm hfo (by omega) hB h1.zone).mono ?_
      rintro e w' ⟨rfl, hw⟩
      exact ⟨rfl, h.refused hb hw⟩
    · rename_i h16
      split
      · rename_i hlong
        refine (Append_long_new base d mb M _ fu ao n cap B w hb hnf h1.dm hfo (by omega) hB h1.zone (by omega)).mono ?_
        rintro e w' ⟨rfl, hw⟩
        exact ⟨rfl, h.refused hb hw⟩
      · rename_i hlong
        refine (Append_G_new d mb base M C _ fu ao n cap B w hb hnf h1 hfo (by omega) hB (by omega)).mono ?_
        rintro e w' ⟨z, rfl, hs, hk9⟩
        obtain ⟨e1, e2⟩ := stepped_done (R' := insF g.R (insK s g.R) (s, [], addB B)) h3 hN0 (by omega) hs h2 (fun ⟨f, c, hfw, hg⟩ => by
          refine ⟨_, _, hg, ?_⟩
          rw [laid_addB _ _ _ hBn]
          exact h2.new hno (fun y hy => by have := (h1.own y hy).2.at.lt; omega) (insK_is s g.R))
        exact ⟨by rw [e1], e2, hk9⟩
  · rename_i hneg
    obtain ⟨f, b, hfm, hfo, hC, hzl, hze⟩ := h2.at hn hz (by omega)
    obtain ⟨i, hi⟩ : ∃ i, i = (atZ s g.R).toNat := ⟨_, rfl⟩
    rw [← hi] at hC hzl hze ⊢
    have hg9 := hl.get i
    split
    · rename_i hlong
      refine (Append_long_old base d mb f M _ fu (C f).1 (C f).2 ao n cap B w hb hnf h1.dm hfo (h1.file hfo).2 hB h1.zone (by rw [allB_run, hC]; omega) (by rw [hC]; omega) (by rw [hC]; omega)).mono ?_
      rintro e w' ⟨rfl, hw⟩
      exact ⟨rfl, h.refused hb hw⟩
    · rename_i hlong
      refine (Append_G_old d mb base f M C _ fu ao n cap B w hb hnf h1 hfo hB (by rw [hC]; omega) (by rw [hC]; omega) (by rw [hC]; omega)).mono ?_
      rintro e w' ⟨z, rfl, hs, hk9⟩
      obtain ⟨e1, e2⟩ := stepped_done (R' := g.R.set i ((g.R.getD i f0).1, (g.R.getD i f0).2.1, (g.R.getD i f0).2.2 ++ addB B)) h3 hN0 (by omega) hs h2 (fun hg => by
        refine ⟨_, _, hg, ?_⟩
        rw [laid_addB _ _ _ hBn, hC]
        exact h2.set hn h1.apart hzl hfm hze _)
      exact ⟨by rw [e1], e2, hk9⟩
theorem Cut_S (s : ByteArray) (sz : Int) (d mb base q k : Nat) (g : Sig) (w : World) (hb : base ≤ w.heap.size) (h : DSig w d mb base g) (hl : Lim q k g) (hq : q + 1 ≤ 4294967296) (hk : k ≤ 1000000) :
    Calls Tryz.prog 22 #[.pointer (some ⟨d, 0, none⟩), .string s, .int .i64 sz] w fun e w' => e = .returned (.int .i64 (cutG s sz g).1) ∧ DSig w' d mb base (cutG s sz g).2 ∧ Kept d mb base w w' := by
  obtain ⟨M, C, fu, h1, h2, h3⟩ := id h
  obtain ⟨hn, hm16⟩ := h1.once
  have hN0 := hl.n0
  have hN1 := hl.n1
  unfold cutG
  split
  · rename_i ho
    have hd := h1.dm.2.2.1
    rw [ho] at hd
    refine (Cut_ref d 10 sz w (.inr rfl) (NoOpen.of_out d mb _ fu s w hd)).mono ?_
    rintro e w' ⟨rfl, hw⟩
    exact ⟨rfl, h.refused hb hw⟩
  rename_i ho
  have ho : g.out = false := by simpa using ho
  rw [ho] at h1
  have hz := atZ_is s g.R
  split
  · rename_i hneg
    obtain ⟨hfo, hno⟩ := h2.no hz hneg
    refine (Cut_ref d 6 sz w (.inl rfl) (NoOpen.of_none d mb M _ fu w h1.dm hfo)).mono ?_
    rintro e w' ⟨rfl, hw⟩
    exact ⟨rfl, h.refused hb hw⟩
  rename_i hneg
  obtain ⟨f, b, hfm, hfo, hC, hzl, hze⟩ := h2.at hn hz (by omega)
  obtain ⟨i, hi⟩ : ∃ i, i = (atZ s g.R).toNat := ⟨_, rfl⟩
  rw [← hi] at hC hzl hze ⊢
  have hg9 := hl.get i
  split
  · rename_i hsz
    by_cases h0 : sz < 0
    · refine (Cut_neg base d mb f sz M _ fu (C f).1 (C f).2 w hb h1.dm hfo (h1.file hfo).2 h0).mono ?_
      rintro e w' ⟨rfl, hw⟩
      exact ⟨rfl, h.refused hb hw⟩
    · refine (Cut_big base d mb f sz M _ fu (C f).1 (C f).2 w hb h1.dm hfo (h1.file hfo).2 (by rw [allB_run, hC]; omega)).mono ?_
      rintro e w' ⟨rfl, hw⟩
      exact ⟨rfl, h.refused hb hw⟩
  · rename_i hsz
    have hG := Cut_G (nm := s) d mb base f sz.toNat M C _ fu w hb h1 hfo (by rw [hC]; omega) (by rw [hC]; omega) (by rw [hC]; omega)
    rw [Int.toNat_of_nonneg (by omega)] at hG
    refine hG.mono ?_
    rintro e w' ⟨z, rfl, hs, hk9⟩
    obtain ⟨e1, e2⟩ := stepped_done (R' := g.R.set i ((g.R.getD i f0).1, (g.R.getD i f0).2.1, (g.R.getD i f0).2.2 ++ [.cut sz.toNat])) h3 hN0 (by omega) hs h2 (fun hg => by
      refine ⟨_, _, hg, ?_⟩
      rw [hC]
      exact h2.set hn h1.apart hzl hfm hze _)
    exact ⟨by rw [e1], e2, hk9⟩
theorem Sync_S (s : ByteArray) (d mb base q k : Nat) (g : Sig) (w : World) (hb : base ≤ w.heap.size) (h : DSig w d mb base g) (hl : Lim q k g) (hk : k ≤ 1000000) :
    Calls Tryz.prog 24 #[.pointer (some ⟨d, 0, none⟩), .string s] w fun e w' => e = .returned (.int .i64 (syncG s g).1) ∧ DSig w' d mb base (syncG s g).2 ∧ Kept d mb base w w' := by
  obtain ⟨M, C, fu, h1, h2, h3⟩ := id h
  obtain ⟨hn, hm16⟩ := h1.once
  have hN0 := hl.n0
  have hN1 := hl.n1
  unfold syncG
  split
  · rename_i ho
    have hd := h1.dm.2.2.1
    rw [ho] at hd
    refine (Sync_ref d 10 w (.inr rfl) (NoOpen.of_out d mb _ fu s w hd)).mono ?_
    rintro e w' ⟨rfl, hw⟩
    exact ⟨rfl, h.refused hb hw⟩
  rename_i ho
  have ho : g.out = false := by simpa using ho
  rw [ho] at h1
  have hz := atZ_is s g.R
  split
  · rename_i hneg
    obtain ⟨hfo, hno⟩ := h2.no hz hneg
    refine (Sync_ref d 6 w (.inl rfl) (NoOpen.of_none d mb M _ fu w h1.dm hfo)).mono ?_
    rintro e w' ⟨rfl, hw⟩
    exact ⟨rfl, h.refused hb hw⟩
  rename_i hneg
  obtain ⟨f, b, hfm, hfo, hC, hzl, hze⟩ := h2.at hn hz (by omega)
  obtain ⟨i, hi⟩ : ∃ i, i = (atZ s g.R).toNat := ⟨_, rfl⟩
  rw [← hi] at hC hzl hze ⊢
  refine (Sync_G (nm := s) d mb base f M C _ fu w hb h1 hfo).mono ?_
  rintro e w' ⟨z, rfl, hs, hk9⟩
  obtain ⟨e1, e2⟩ := stepped_done (R' := g.R.set i ((g.R.getD i f0).1, runD (g.R.getD i f0).2.1 (g.R.getD i f0).2.2, [])) h3 hN0 (by omega) hs h2 (fun hg => by
    refine ⟨_, _, hg, ?_⟩
    rw [hC]
    exact h2.set hn h1.apart hzl hfm hze _)
  exact ⟨by rw [e1], e2, hk9⟩
theorem Remove_S (s : ByteArray) (d mb base q k : Nat) (g : Sig) (w : World) (hb : base ≤ w.heap.size) (h : DSig w d mb base g) (hl : Lim q k g) (hk : k ≤ 1000000) :
    Calls Tryz.prog 26 #[.pointer (some ⟨d, 0, none⟩), .string s] w fun e w' => e = .returned (.int .i64 (remG s g).1) ∧ DSig w' d mb base (remG s g).2 ∧ Kept d mb base w w' := by
  obtain ⟨M, C, fu, h1, h2, h3⟩ := id h
  obtain ⟨hn, hm16⟩ := h1.once
  have hN0 := hl.n0
  have hN1 := hl.n1
  unfold remG
  split
  · rename_i ho
    have hd := h1.dm.2.2.1
    rw [ho] at hd
    refine (Remove_ref d 10 w (.inr rfl) (NoOpen.of_out d mb _ fu s w hd)).mono ?_
    rintro e w' ⟨rfl, hw⟩
    exact ⟨rfl, h.refused hb hw⟩
  rename_i ho
  have ho : g.out = false := by simpa using ho
  rw [ho] at h1
  have hz := atZ_is s g.R
  split
  · rename_i hneg
    obtain ⟨hfo, hno⟩ := h2.no hz hneg
    refine (Remove_ref d 6 w (.inl rfl) (NoOpen.of_none d mb M _ fu w h1.dm hfo)).mono ?_
    rintro e w' ⟨rfl, hw⟩
    exact ⟨rfl, h.refused hb hw⟩
  rename_i hneg
  obtain ⟨f, b, hfm, hfo, hC, hzl, hze⟩ := h2.at hn hz (by omega)
  obtain ⟨i, hi⟩ : ∃ i, i = (atZ s g.R).toNat := ⟨_, rfl⟩
  rw [← hi] at hC hzl hze ⊢
  refine (Remove_any s d mb base f M C _ fu w hb h1 hfo).mono ?_
  rintro e w' ⟨z, rfl, hs, hk9⟩
  obtain ⟨e1, e2⟩ := stepped_done (R' := g.R.take i ++ g.R.drop (i + 1)) h3 hN0 (by omega) hs h2 (fun hg => ⟨_, _, hg, h2.del hn hzl hze⟩)
  exact ⟨by rw [e1], e2, hk9⟩
theorem Fuse_S (n : Int) (hn1 : n ≤ 9223372036854775807) (d mb base : Nat) (g : Sig) (w : World) (hb : base ≤ w.heap.size) (h : DSig w d mb base g) :
    Calls Tryz.prog 16 #[.pointer (some ⟨d, 0, none⟩), .int .i64 n] w fun e w' => e = .returned (.int .i64 (fuseG n g).1) ∧ DSig w' d mb base (fuseG n g).2 ∧ Kept d mb base w w' := by
  obtain ⟨M, C, fu, h1, h2, h3⟩ := h
  unfold fuseG
  refine (Fuse_G d mb base M C n _ fu g.out w hb hn1 h1).mono ?_
  rintro e w' ⟨(⟨q1, rfl, q2⟩ | ⟨q1, rfl, q2⟩), hk⟩
  · rw [if_pos q1]
    exact ⟨rfl, ⟨M, C, fu, q2, h2, h3⟩, hk⟩
  · rw [if_neg (by omega)]
    exact ⟨rfl, ⟨M, C, n, q2, h2, .inr ⟨rfl, rfl, q1⟩⟩, hk⟩
end Go.Proofs.YtjkkfjmloleedaaGreat

/- the reference's disk: Names -/
namespace Go.Proofs.YtjkkfjmloleedaaGreat
open Go.RowKit
set_option linter.unusedSectionVars false
variable [Zone]
theorem Tryz.infoString : (Tryz.prog.info? 9).map (fun i => (i.zero, i.size, i.bytes)) = some (some (.string ⟨#[]⟩), 1, 16) := by kernel_rfl
/-- own strings. -/
def OwnT (w : World) (base : Nat) (v : Value) (L : List ByteArray) : Prop := w.ownsRow base 9 1 v L.length (L.map Value.string)
theorem OwnT.nil (w : World) (base : Nat) : OwnT w base (.slice none 0 0) [] := World.ownsRow_nil _ _ _ _
theorem OwnT.lt {w : World} {base : Nat} {v : Value} {L : List ByteArray} (h : OwnT w base v L) (g : Nat) (hg : v.ownBlock = some g) : base ≤ g ∧ g < w.heap.size := World.ownsRow.lt h g hg
theorem OwnT.later {w w' : World} {base : Nat} {v : Value} {L : List ByteArray} (h : OwnT w base v L) (hb : Below w.heap.size w w') : OwnT w' base v L := ownsRow_move h fun g hg => hb.block g (h.lt g hg).2
theorem OwnT.texts {w : World} {base : Nat} {v : Value} {L : List ByteArray} (h : OwnT w base v L) : ∃ a cap, v = .slice a L.length cap ∧ IsTexts w a L.length cap L := by
  rcases h.2 with ⟨rfl, h0⟩ | ⟨g, cap, cur, rfl, hb, hg, hn, hm, hs, ht⟩
  · exact ⟨none, 0, by rw [h0], rfl, by omega, by unfold maxLen; omega, fun hp => absurd hp (by omega)⟩
  · refine ⟨_, cap, rfl, rfl, hn, hm, fun _ => ⟨g, 0, rfl, fun i hi => ?_⟩⟩
    have hc := h.cells (g := g) rfl i (.string L[i]) (by rw [List.getElem?_map, List.getElem?_eq_getElem hi]; rfl)
    have he : (⟨g, 0, none⟩ : Addr).add i = ⟨g, 0 + i, none⟩ := by unfold Addr.add; split <;> simp_all
    rw [he] at hc
    rw [hc, List.getD_eq_getElem?_getD, List.getElem?_eq_getElem hi]
    rfl
theorem run_append_text {w : World} (ty base : Nat) (v : Value) (L : List ByteArray) (hown : OwnT w base v L) (g c : Nat) (x : ByteArray) (hx : w.cell? ⟨g, 0, none⟩ = some (.string x)) (hnm : L.length ≤ 1000000) (hbase : base ≤ w.heap.size) :
    ∃ v' w', (Builtin.append_ #[61, 61] ty #[v, .slice (some ⟨g, 0, none⟩) 1 c]).run Tryz.prog w = .ok v' w' ∧ OwnT w' base v' (L ++ [x]) ∧ w.grownBy w' v.ownBlock := by
  obtain ⟨i0, hi, hz0, hz1, hz2⟩ := info_parts Tryz.infoString
  obtain ⟨v', w', hr, h2, h3, _⟩ := run_append_own (P := Tryz.prog) w base 61 ty _ i0 (.string ⟨#[]⟩) 1 16 Tryz.underlying61 hi hz0 hz1 hz2 rfl (by decide) v _ _ hown ⟨g, 0, none⟩ 1 c [.string x] rfl
    (fun j y hy => by
      cases j with
      | zero => simp at hy; subst hy; have : (⟨g, 0, none⟩ : Addr).add 0 = ⟨g, 0, none⟩ := by simp [Addr.add]
                rw [this]; exact hx
      | succ j => simp at hy)
    (fun y hy => by simp at hy; subst hy; rfl) (Nat.le_trans (Nat.add_le_add_right hnm 1) (by unfold maxLen; omega)) (by omega) hbase
  refine ⟨v', w', hr, ?_, h3⟩
  unfold OwnT
  rw [List.map_append, List.length_append]
  exact h2
theorem wpList_append_text {w : World} {ops : Array Oper} {rest : List Oper} {o : Oper} {a : Act} {Q : Exit → Act → World → Prop} (hgd : o.guard = none) (s x : Operand)
    (ho : o.op = .call { callee := .builtin .append, args := #[s, x], argTypes := #[61, 61] })
    (base : Nat) (v : Value) (L : List ByteArray) (hs : a.eval s = v) (hown : OwnT w base v L) (g c : Nat) (y : ByteArray) (hx : a.eval x = .slice (some ⟨g, 0, none⟩) 1 c) (hy : w.cell? ⟨g, 0, none⟩ = some (.string y)) (hnm : L.length ≤ 1000000) (hbase : base ≤ w.heap.size)
    (h : ∀ v' w', OwnT w' base v' (L ++ [y]) → w.grownBy w' v.ownBlock → wpList Tryz.prog ops Q rest (a.put o.dst v') w') : wpList Tryz.prog ops Q (o :: rest) a w := by
  obtain ⟨v', w', hr, h2, h3⟩ := run_append_text o.type base v L hown g c y hy hnm hbase
  refine wpList_plain hgd fun K hK => ?_
  unfold Oper.wp execOp
  simp only [ho, resolve, invoke, builtin, Sem.run_bind, Sem.run_pure, Result.andThen_ok, List.map_toArray, List.map_cons, List.map_nil, hs, hx, hr]
  exact hK _ _ (h v' w' h2 h3)
set_option maxRecDepth 100000 in
theorem rNames_any (r base : Nat) (R : List FileV) (N : Int) (fz : Bool) (lf : Int) (out : Bool) (w : World) (hR : R.length ≤ 1000) (h : RefAt w r base R N fz lf out) :
    Calls Tryz.prog 28 #[.pointer (some ⟨r, 0, none⟩)] w fun e w' => ∃ v, e = .returned v ∧ OwnT w' w.heap.size v (R.map (·.1)) ∧ Below w.heap.size w w' := by
  have H := Lib.hid h
  obtain ⟨ao, cap, hr, hcap, hcm, _⟩ := h.file
  obtain ⟨n, hn⟩ : ∃ n, n = R.length := ⟨_, rfl⟩
  have r0 : w.cell? ⟨r, 0, none⟩ = some (.slice ao n cap) := by rw [hn]; exact hr.cells.1
  have hrl := Lib.hid hr.lt
  rw [← hn] at hcap
  unfold maxLen at hcm
  have HN := Lib.hid (And.intro hn hR)
  have hn3 : n ≤ 1000 := by omega
  clear h hr hn hR
  go_enter Tryz.func28, Tryz.ntmps28
  go_wp2_with fail
  go_loopw [3, 4] (fun sv i wr => ∃ k : Nat, k ≤ n ∧ i = .int .i64 k ∧ Hid (OwnT wr w.heap.size sv ((R.map (·.1)).take k)) ∧ Hid (Below w.heap.size w wr)) (fun _ i _ => n - (intOf i).toNat)
  case atStart => exact ⟨0, by omega, rfl, Lib.hid (OwnT.nil _ _), Lib.hid (Below.refl _ _)⟩
  case round =>
    obtain ⟨k, hk, rfl, hown, hbl⟩ := hrel
    have r0' : wr.cell? ⟨r, 0, none⟩ = some (.slice ao n cap) := (hbl.out.cell (p := ⟨r, 0, none⟩) hrl.out).trans r0
    by_cases hlt : k < n
    · have hi0 : (0 : Int) ≤ (k : Int) := by omega
      have hi1 : (k : Int) < (n : Int) := by omega
      obtain ⟨ao', cap', hr', _, _, hcell⟩ := (H.out.later hbl.out).file
      obtain ⟨b, off, sa, sn, sc, al, m, capl, e, g0, _, _, _, _⟩ := hcell k (by rw [← HN.out.1]; exact hlt)
      have e2 : ao' = ao := by
        have := hr'.cells.1
        rw [r0'] at this
        injection this with this
        injection this with this _
        exact this.symm
      rw [e2] at e
      subst e
      obtain ⟨x, hx⟩ : ∃ x, x = (R.getD k f0).1 := ⟨_, rfl⟩
      rw [← hx] at g0
      have HXX := Lib.hid hx
      obtain ⟨av, cv, hv, _⟩ := hown.out.texts
      have hlen : ((R.map (·.1)).take k).length = k := by rw [List.length_take, List.length_map, ← HN.out.1]; omega
      rw [hlen] at hv
      subst hv
      have HLEN := Lib.hid hlen
      clear hcell hr' hx hlen e2
      go_wp2_with (at_builtin; refine wpList_append_text rfl _ _ rfl w.heap.size (.slice av k cv) ((R.map (·.1)).take k) rfl (hown.out.later ((Below.refl _ wr).alloc (Nat.le_refl _) _)) wr.heap.size 1 x rfl (cell_of_row _ _ _ _ _ _ (heap_alloc_new _ _)) (by rw [HLEN.out]; omega) (Nat.le_trans hbl.out.size (by simp)) ?_; intro v2 w2 hown2 hg2; have H2 := Lib.hid (And.intro hown2 ((hbl.out.trans (((Below.refl _ wr).alloc (Nat.le_refl _) _).mono hbl.out.size)).grown hg2 (Nat.le_trans hbl.out.size (by simp)) (fun g hg => (hown.out.lt g hg).1))); clear hown2 hg2)
      go_roundw
      case rel =>
        refine ⟨k + 1, by omega, by go_num, Lib.hid ?_, Lib.hid H2.out.2⟩
        have : (R.map (·.1)).take (k + 1) = (R.map (·.1)).take k ++ [x] := by
          have hkl : k < (R.map (·.1)).length := by rw [List.length_map, ← HN.out.1]; exact hlt
          rw [List.take_succ_eq_append_getElem hkl, HXX.out, List.getElem_map, List.getD_eq_getElem?_getD, List.getElem?_eq_getElem (by simpa using hkl)]
          rfl
        rw [this]
        exact H2.out.1
      case measure => simp [intOf]; omega
    · obtain rfl : k = n := by omega
      have hi1 : ¬ (k : Int) < (k : Int) := by omega
      go_wp2_with fail
      go_ret
      have := hown.out
      rw [List.take_of_length_le (by rw [List.length_map, ← HN.out.1]; exact Nat.le_refl _)] at this
      exact ⟨_, rfl, this, hbl.out⟩
end Go.Proofs.YtjkkfjmloleedaaGreat

/- the disk's calls, each against what it makes of what both disks hold: Rename, Crash, Read, Loose -/
namespace Go.Proofs.YtjkkfjmloleedaaGreat
open Go.RowKit
set_option linter.unusedSectionVars false
variable [Zone]
theorem crashN_other {M : List Ent} {K : List Int} {f : Nat} : ∀ (L : List FileV) (i : Nat) (C : Cont), (∀ x ∈ L, ∀ g, fileOf x.1 M = some g → g ≠ f) → crashN M K (L.map fun x => nmL x.1) i C f = C f
  | [], _, _, _ => rfl
  | x :: L, i, C, h => by
    rw [List.map_cons, crashN, crashN_other L _ _ (fun y hy => h y (List.mem_cons_of_mem _ hy)), show (⟨(nmL x.1).toArray⟩ : ByteArray) = x.1 by simp]
    have h0 := h x (List.mem_cons_self ..)
    cases hg : fileOf x.1 M with
    | none => rfl
    | some g => exact setC_ne _ _ (fun e => h0 g hg e.symm)
theorem crashN_at {M : List Ent} {K : List Int} {f : Nat} (hap : ∀ (s t : ByteArray) (g : Nat), fileOf s M = some g → fileOf t M = some g → s = t) : ∀ (L : List FileV) (i j : Nat) (C : Cont), L.Pairwise (fun x y => x.1 ≠ y.1) → j < L.length → fileOf (L.getD j f0).1 M = some f → crashN M K (L.map fun x => nmL x.1) i C f = (afterZ (C f).1 (C f).2 (unitK K (i + j) (C f).2), [])
  | x :: L, i, 0, C, hd, _, hf => by
    have hf : fileOf x.1 M = some f := hf
    rw [List.map_cons, crashN, show (⟨(nmL x.1).toArray⟩ : ByteArray) = x.1 by simp, hf]
    rw [crashN_other L _ _ (fun y hy g hg e => ?_)]
    · exact setC_at _ _ _
    · subst e
      exact (List.pairwise_cons.1 hd).1 y hy (hap _ _ _ hf hg)
  | x :: L, i, j + 1, C, hd, hj, hf => by
    have hj : j < L.length := by simpa using hj
    have hf : fileOf (L.getD j f0).1 M = some f := hf
    rw [List.map_cons, crashN, show (⟨(nmL x.1).toArray⟩ : ByteArray) = x.1 by simp]
    have hx : x.1 ≠ (L.getD j f0).1 := (List.pairwise_cons.1 hd).1 _ (getD_mem' hj)
    cases hg : fileOf x.1 M with
    | none =>
      show crashN M K (L.map fun x => nmL x.1) (i + 1) C f = _
      rw [crashN_at hap L (i + 1) j C (List.pairwise_cons.1 hd).2 hj hf, show i + 1 + j = i + (j + 1) by omega]
    | some g =>
      show crashN M K (L.map fun x => nmL x.1) (i + 1) (setC C g (afterZ (C g).1 (C g).2 (unitK K i (C g).2), [])) f = _
      have hne : f ≠ g := fun e => by
        subst e
        exact hx (hap _ _ _ hg hf)
      rw [crashN_at hap L (i + 1) j _ (List.pairwise_cons.1 hd).2 hj hf, setC_ne _ _ hne, show i + 1 + j = i + (j + 1) by omega]
theorem Mir.crash {M : List Ent} {C : Cont} {R : List FileV} (h : Mir M C R) (hn : (M.map (·.1)).Nodup) (hap : ∀ x ∈ M, ∀ y ∈ M, x.2.1 = y.2.1 → x.1 = y.1) (K : List Int) : Mir M (crashN M K (sortN M) 0 C) (crashL K R) := by
  have hap2 : ∀ (s t : ByteArray) (g : Nat), fileOf s M = some g → fileOf t M = some g → s = t := fun s t g h1 h2 => by
    obtain ⟨b1, q1⟩ := fileOf_mem h1
    obtain ⟨b2, q2⟩ := fileOf_mem h2
    exact hap _ q1 _ q2 rfl
  have hd : R.Pairwise (fun x y => x.1 ≠ y.1) := h.rise.imp (fun {a b} hab e => by rw [e] at hab; exact List.lt_irrefl _ hab)
  rw [h.names hn]
  refine ⟨?_, fun x hx => ?_, fun y hy => ?_⟩
  · have h1 := h.rise
    rw [List.pairwise_iff_getElem] at h1 ⊢
    unfold crashL
    intro i j hi hj hij
    rw [List.length_mapIdx] at hi hj
    rw [List.getElem_mapIdx, List.getElem_mapIdx]
    exact h1 i j hi hj hij
  · unfold crashL at hx
    obtain ⟨j, hj, rfl⟩ := List.mem_mapIdx.1 hx
    obtain ⟨f, b, q1, q2⟩ := h.has _ (List.getElem_mem hj)
    refine ⟨f, b, q1, ?_⟩
    have e : R.getD j f0 = R[j] := by rw [List.getD_eq_getElem?_getD, List.getElem?_eq_getElem hj]; rfl
    rw [crashN_at hap2 R 0 j C hd hj (by rw [e]; exact fileOf_of hn q1), q2, Nat.zero_add]
    unfold crashAt
    have hu := unitK_le K j R[j].2.2
    rw [runD_keeps, Int.toNat_of_nonneg hu.1]
  · obtain ⟨x, hx, e⟩ := h.all y hy
    obtain ⟨j, hj, rfl⟩ := List.getElem_of_mem hx
    exact ⟨crashAt K j R[j], List.mem_mapIdx.2 ⟨j, hj, rfl⟩, e⟩
theorem Crash_S (ao : Option Addr) (n cap : Nat) (K : List Int) (d mb base : Nat) (g : Sig) (w : World) (hb : base ≤ w.heap.size) (h : DSig w d mb base g) (hK : IsKeeps w ao n cap K) :
    Calls Tryz.prog 18 #[.pointer (some ⟨d, 0, none⟩), .slice ao n cap] w fun e w' => e = .returned (.int .i64 (crashG K g).1) ∧ DSig w' d mb base (crashG K g).2 ∧ Kept d mb base w w' := by
  obtain ⟨M, C, fu, h1, h2, h3⟩ := h
  refine (Crash_G d mb base M C _ fu g.out ao n cap K w hb h1 hK).mono ?_
  rintro e w' ⟨rfl, q1, q2⟩
  exact ⟨rfl, ⟨M, _, -1, q1, h2.crash h1.once.1 h1.apart K, .inl ⟨rfl, rfl⟩⟩, q2⟩
theorem Read_S (s : ByteArray) (d mb base : Nat) (g : Sig) (w : World) (h : DSig w d mb base g) :
    Calls Tryz.prog 33 #[.pointer (some ⟨d, 0, none⟩), .string s] w fun e w' => ∃ v, e = .returned (.tuple #[v, .int .i64 (readG s g).1]) ∧ OwnB w' w.heap.size v (readG s g).2 ∧ Below w.heap.size w w' := by
  obtain ⟨M, C, fu, h1, h2, h3⟩ := id h
  obtain ⟨hn, hm16⟩ := h1.once
  unfold readG
  split
  · rename_i ho
    have hd := h1.dm.2.2.1
    rw [ho] at hd
    refine (Read_ref d 10 w (.inr rfl) (NoOpen.of_out d mb _ fu s w hd)).mono ?_
    rintro e w' ⟨rfl, rfl⟩
    exact ⟨_, rfl, OwnB.nil w _, Below.refl _ _⟩
  rename_i ho
  have ho : g.out = false := by simpa using ho
  rw [ho] at h1
  have hz := atZ_is s g.R
  split
  · rename_i hneg
    obtain ⟨hfo, hno⟩ := h2.no hz hneg
    refine (Read_ref d 6 w (.inl rfl) (NoOpen.of_none d mb M _ fu w h1.dm hfo)).mono ?_
    rintro e w' ⟨rfl, rfl⟩
    exact ⟨_, rfl, OwnB.nil w _, Below.refl _ _⟩
  rename_i hneg
  obtain ⟨f, b, hfm, hfo, hC, hzl, hze⟩ := h2.at hn hz (by omega)
  refine (Read_G (nm := s) d mb base f M C _ fu w h1 hfo).mono ?_
  rintro e w' ⟨v, rfl, hv, hw⟩
  rw [hC] at hv
  exact ⟨v, rfl, hv, hw⟩
theorem Loose_S (s : ByteArray) (d mb base : Nat) (g : Sig) (w : World) (h : DSig w d mb base g) :
    Calls Tryz.prog 36 #[.pointer (some ⟨d, 0, none⟩), .string s] w fun e w' => e = .returned (.int .i64 (looseG s g)) ∧ w = w' := by
  obtain ⟨M, C, fu, h1, h2, h3⟩ := id h
  obtain ⟨hn, hm16⟩ := h1.once
  have hz := atZ_is s g.R
  unfold looseG
  split
  · rename_i hneg
    obtain ⟨f, b, hfm, hfo, hC, hzl, hze⟩ := h2.at hn hz hneg
    refine (Loose_G (nm := s) d mb base f M C _ fu g.out w h1 hfo).mono ?_
    rintro e w' ⟨rfl, rfl⟩
    rw [hC]
    exact ⟨rfl, rfl⟩
  · rename_i hneg
    obtain ⟨hfo, hno⟩ := h2.no hz (by omega)
    exact Loose_none d mb M _ fu g.out w h1.dm hfo
theorem Names_S (d mb base : Nat) (g : Sig) (w : World) (h : DSig w d mb base g) :
    Calls Tryz.prog 30 #[.pointer (some ⟨d, 0, none⟩)] w fun e w' => ∃ v, e = .returned v ∧ OwnT w' w.heap.size v (g.R.map (·.1)) ∧ Below w.heap.size w w' := by
  obtain ⟨M, C, fu, h1, h2, h3⟩ := h
  obtain ⟨hn, hm16⟩ := h1.once
  refine (Names_any d mb M _ fu g.out w h1.dm).mono ?_
  rintro e w' ⟨v, rfl, q1, q2, q3⟩
  refine ⟨v, rfl, ?_, q3⟩
  rw [h2.names hn, ← h2.length hn] at q1
  unfold OwnT
  rw [List.length_map, List.map_map]
  rw [List.map_map] at q1
  have e : (encStr ∘ fun x : FileV => nmL x.1) = (Value.string ∘ fun x : FileV => x.1) := by
    funext x
    simp [encStr]
  rw [e] at q1
  exact q1
end Go.Proofs.YtjkkfjmloleedaaGreat
