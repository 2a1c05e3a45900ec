/- the disk's calls, each against what it makes of what both disks hold -/
import Derived.Test.YtmpjjkfbojhfoaaSig
import Derived.Test.YtmpjjkfbojhfoaaDBad2
import Derived.Test.YtmpjjkfbojhfoaaRNames
import Derived.Test.YtmpjjkfbojhfoaaDZone
namespace Go.Proofs.Ytmpjjkfbojhfoaa
open Go.RowKit
set_option linter.unusedSectionVars false
variable [Zone]
def Fu (g : Sig) (fu : Int) : Prop := (g.fz = false ∧ fu = -1) ∨ (g.fz = true ∧ fu = g.lf ∧ 0 ≤ fu)
/-- a disk that holds it. -/
def DSig (w : World) (d mb base : Nat) (g : Sig) : Prop := ∃ M C fu, DiskG w g.N fu g.out d mb base M C ∧ Mir M C g.R ∧ Fu g fu
/-- the reference's. -/
def RSig (w : World) (r base : Nat) (g : Sig) : Prop := RefAt w r base g.R g.N g.fz g.lf g.out
theorem DSig.later {w w' : World} {d mb base : Nat} {g : Sig} (h : DSig w d mb base g) (hb : Below w.heap.size w w') : DSig w' d mb base g := by
  obtain ⟨M, C, fu, h1, h2, h3⟩ := h
  exact ⟨M, C, fu, h1.later hb, h2, h3⟩
theorem RSig.later {w w' : World} {r base : Nat} {g : Sig} (h : RSig w r base g) (hb : Below w.heap.size w w') : RSig w' r base g := RefAt.later h hb
theorem DiskG.once {w : World} {st fu : Int} {out : Bool} {d mb base : Nat} {M : List Ent} {C : Cont} (h : DiskG w st fu out d mb base M C) : (M.map (·.1)).Nodup ∧ M.length ≤ 16 := by
  obtain ⟨_, _, _, c, hf, _⟩ := h.dm
  exact ⟨hf.once, hf.few⟩
theorem DSig.fit {w : World} {d mb base : Nat} {g : Sig} (h : DSig w d mb base g) : (∀ x ∈ g.R, FitF x) ∧ g.R.length ≤ 16 := by
  obtain ⟨M, C, fu, h1, h2, h3⟩ := h
  obtain ⟨hn, hl⟩ := h1.once
  refine ⟨fun x hx => ?_, by rw [h2.length hn]; exact hl⟩
  obtain ⟨f, b, hm, hc⟩ := h2.has x hx
  obtain ⟨_, _, q1, q2⟩ := h1.own _ hm
  unfold FitF
  rw [show (x.1, f, b).2.1 = f from rfl, hc] at q1 q2
  exact ⟨q1, by rw [← sum_units]; exact q2⟩
theorem DSig.lt {w : World} {d mb base : Nat} {g : Sig} (h : DSig w d mb base g) : base ≤ mb ∧ mb < d ∧ d < w.heap.size := by
  obtain ⟨M, C, fu, h1, h2, h3⟩ := h
  exact ⟨h1.low, h1.dm.2.1, h1.dm.2.2.1.lt⟩
theorem stepped_done {w' : World} {d mb base : Nat} {M : List Ent} {C : Cont} {g : Sig} {fu z : Int} {R' : List FileV} {P : Prop} (hf : Fu g fu) (h0 : 0 ≤ g.N) (h1 : g.N ≤ 1000000) (h : Stepped fu z (DiskG w' g.N fu true d mb base M C) P) (hm : Mir M C g.R)
    (hP : P → ∃ M' C', DiskG w' (wrap64 (g.N + 1)) (dec fu) false d mb base M' C' ∧ Mir M' C' R') : z = (doneG g R').1 ∧ DSig w' d mb base (doneG g R').2 := by
  unfold doneG
  rcases h with ⟨q1, q2, q3⟩ | ⟨q1, q2, q3⟩
  · have hc : g.fz = true ∧ g.lf = 0 := by
      rcases hf with ⟨_, e⟩ | ⟨a, b, _⟩
      · omega
      · exact ⟨a, by omega⟩
    rw [if_pos hc]
    exact ⟨q2, M, C, fu, q3, hm, hf⟩
  · have hc : ¬ (g.fz = true ∧ g.lf = 0) := by
      rintro ⟨a, b⟩
      rcases hf with ⟨c, _⟩ | ⟨_, c, _⟩
      · rw [a] at c; cases c
      · omega
    rw [if_neg hc]
    obtain ⟨M', C', r1, r2⟩ := hP q3
    have e : wrap64 (g.N + 1) = g.N + 1 := by unfold wrap64; omega
    rw [e] at r1
    refine ⟨q2, M', C', dec fu, r1, r2, ?_⟩
    unfold dec
    rcases hf with ⟨a, b⟩ | ⟨a, b, c⟩
    · exact .inl ⟨a, by rw [if_neg (by omega)]; exact b⟩
    · refine .inr ⟨a, ?_, ?_⟩
      · show _ = if g.fz = true then g.lf - 1 else g.lf
        rw [if_pos (by omega), if_pos a, b]
      · rw [if_pos (by omega)]; omega
theorem laid_addB (D : List Deed) (n : Nat) (B : List UInt8) (h : B.length = n) : laid D n B = D ++ addB B := by
  unfold laid addB
  cases B with
  | nil => rw [if_pos (by simpa using h.symm)]; simp
  | cons b B => rw [if_neg (by rw [← h]; simp)]; simp
/-- refused calls. -/
theorem DSig.refused {w w' : World} {d mb base : Nat} {g : Sig} (h : DSig w d mb base g) (hb : base ≤ w.heap.size) (hw : Below w.heap.size w w') : DSig w' d mb base g ∧ Kept d mb base w w' := ⟨h.later hw, .of_below hw hb⟩
theorem Append_S (s : ByteArray) (hss : s.size ≤ 1099511627776) (d mb base q k : Nat) (g : Sig) (ao : Option Addr) (n cap : Nat) (B : List UInt8) (w : World) (hb : base ≤ w.heap.size) (h : DSig w d mb base g) (hl : Lim q k g) (hq : q + B.length ≤ 4294967296) (hk : k ≤ 1000000) (hB : IsBytes w ao n cap B) :
    Calls Try.prog 12 #[.pointer (some ⟨d, 0, none⟩), .string s, .slice ao n cap] w fun e w' => e = .returned (.int .i64 (appG s B g).1) ∧ DSig w' d mb base (appG s B g).2 ∧ Kept d mb base w w' := by
  obtain ⟨M, C, fu, h1, h2, h3⟩ := id h
  obtain ⟨hn, hm16⟩ := h1.once
  have hN0 := hl.n0
  have hN1 := hl.n1
  have hBn := hB.1
  unfold appG
  split
  · rename_i ho
    have hd := h1.dm.2.2.1
    rw [ho] at hd
    refine (Append_out d mb _ fu ao n cap w hd).mono ?_
    rintro e w' ⟨rfl, hw⟩
    exact ⟨rfl, h.refused hb hw⟩
  rename_i ho
  have ho : g.out = false := by simpa using ho
  rw [ho] at h1
  split
  · rename_i hnf
    refine (Append_bad d mb M _ fu ao n cap w hss hnf h1.dm).mono ?_
    rintro e w' ⟨rfl, hw⟩
    exact ⟨rfl, h.refused hb hw⟩
  rename_i hnf
  have hnf : nameP s.data.toList = true := by simpa using hnf
  have hz := atZ_is s g.R
  split
  · rename_i hneg
    obtain ⟨hfo, hno⟩ := h2.no hz hneg
    have hRl := h2.length hn
    split
    · rename_i h16
      refine (Append_full base d mb M _ fu ao n cap B w hb hnf h1.dm hfo (by omega) hB h1.zone).mono ?_
      rintro e w' ⟨rfl, hw⟩
      exact ⟨rfl, h.refused hb hw⟩
    · rename_i h16
      split
      · rename_i hlong
        refine (Append_long_new base d mb M _ fu ao n cap B w hb hnf h1.dm hfo (by omega) hB h1.zone (by omega)).mono ?_
        rintro e w' ⟨rfl, hw⟩
        exact ⟨rfl, h.refused hb hw⟩
      · rename_i hlong
        refine (Append_G_new d mb base M C _ fu ao n cap B w hb hnf h1 hfo (by omega) hB (by omega)).mono ?_
        rintro e w' ⟨z, rfl, hs, hk9⟩
        obtain ⟨e1, e2⟩ := stepped_done (R' := insF g.R (insK s g.R) (s, [], addB B)) h3 hN0 (by omega) hs h2 (fun ⟨f, c, hfw, hg⟩ => by
          refine ⟨_, _, hg, ?_⟩
          rw [laid_addB _ _ _ hBn]
          exact h2.new hno (fun y hy => by have := (h1.own y hy).2.at.lt; omega) (insK_is s g.R))
        exact ⟨by rw [e1], e2, hk9⟩
  · rename_i hneg
    obtain ⟨f, b, hfm, hfo, hC, hzl, hze⟩ := h2.at hn hz (by omega)
    obtain ⟨i, hi⟩ : ∃ i, i = (atZ s g.R).toNat := ⟨_, rfl⟩
    rw [← hi] at hC hzl hze ⊢
    have hg9 := hl.get i
    split
    · rename_i hlong
      refine (Append_long_old base d mb f M _ fu (C f).1 (C f).2 ao n cap B w hb hnf h1.dm hfo (h1.file hfo).2 hB h1.zone (by rw [allB_run, hC]; omega) (by rw [hC]; omega) (by rw [hC]; omega)).mono ?_
      rintro e w' ⟨rfl, hw⟩
      exact ⟨rfl, h.refused hb hw⟩
    · rename_i hlong
      refine (Append_G_old d mb base f M C _ fu ao n cap B w hb hnf h1 hfo hB (by rw [hC]; omega) (by rw [hC]; omega) (by rw [hC]; omega)).mono ?_
      rintro e w' ⟨z, rfl, hs, hk9⟩
      obtain ⟨e1, e2⟩ := stepped_done (R' := g.R.set i ((g.R.getD i f0).1, (g.R.getD i f0).2.1, (g.R.getD i f0).2.2 ++ addB B)) h3 hN0 (by omega) hs h2 (fun hg => by
        refine ⟨_, _, hg, ?_⟩
        rw [laid_addB _ _ _ hBn, hC]
        exact h2.set hn h1.apart hzl hfm hze _)
      exact ⟨by rw [e1], e2, hk9⟩
theorem Cut_S (s : ByteArray) (sz : Int) (d mb base q k : Nat) (g : Sig) (w : World) (hb : base ≤ w.heap.size) (h : DSig w d mb base g) (hl : Lim q k g) (hq : q + 1 ≤ 4294967296) (hk : k ≤ 1000000) :
    Calls Try.prog 29 #[.pointer (some ⟨d, 0, none⟩), .string s, .int .i64 sz] w fun e w' => e = .returned (.int .i64 (cutG s sz g).1) ∧ DSig w' d mb base (cutG s sz g).2 ∧ Kept d mb base w w' := by
  obtain ⟨M, C, fu, h1, h2, h3⟩ := id h
  obtain ⟨hn, hm16⟩ := h1.once
  have hN0 := hl.n0
  have hN1 := hl.n1
  unfold cutG
  split
  · rename_i ho
    have hd := h1.dm.2.2.1
    rw [ho] at hd
    refine (Cut_ref d 10 sz w (.inr rfl) (NoOpen.of_out d mb _ fu s w hd)).mono ?_
    rintro e w' ⟨rfl, hw⟩
    exact ⟨rfl, h.refused hb hw⟩
  rename_i ho
  have ho : g.out = false := by simpa using ho
  rw [ho] at h1
  have hz := atZ_is s g.R
  split
  · rename_i hneg
    obtain ⟨hfo, hno⟩ := h2.no hz hneg
    refine (Cut_ref d 6 sz w (.inl rfl) (NoOpen.of_none d mb M _ fu w h1.dm hfo)).mono ?_
    rintro e w' ⟨rfl, hw⟩
    exact ⟨rfl, h.refused hb hw⟩
  rename_i hneg
  obtain ⟨f, b, hfm, hfo, hC, hzl, hze⟩ := h2.at hn hz (by omega)
  obtain ⟨i, hi⟩ : ∃ i, i = (atZ s g.R).toNat := ⟨_, rfl⟩
  rw [← hi] at hC hzl hze ⊢
  have hg9 := hl.get i
  split
  · rename_i hsz
    by_cases h0 : sz < 0
    · refine (Cut_neg base d mb f sz M _ fu (C f).1 (C f).2 w hb h1.dm hfo (h1.file hfo).2 h0).mono ?_
      rintro e w' ⟨rfl, hw⟩
      exact ⟨rfl, h.refused hb hw⟩
    · refine (Cut_big base d mb f sz M _ fu (C f).1 (C f).2 w hb h1.dm hfo (h1.file hfo).2 (by rw [allB_run, hC]; omega)).mono ?_
      rintro e w' ⟨rfl, hw⟩
      exact ⟨rfl, h.refused hb hw⟩
  · rename_i hsz
    have hG := Cut_G (nm := s) d mb base f sz.toNat M C _ fu w hb h1 hfo (by rw [hC]; omega) (by rw [hC]; omega) (by rw [hC]; omega)
    rw [Int.toNat_of_nonneg (by omega)] at hG
    refine hG.mono ?_
    rintro e w' ⟨z, rfl, hs, hk9⟩
    obtain ⟨e1, e2⟩ := stepped_done (R' := g.R.set i ((g.R.getD i f0).1, (g.R.getD i f0).2.1, (g.R.getD i f0).2.2 ++ [.cut sz.toNat])) h3 hN0 (by omega) hs h2 (fun hg => by
      refine ⟨_, _, hg, ?_⟩
      rw [hC]
      exact h2.set hn h1.apart hzl hfm hze _)
    exact ⟨by rw [e1], e2, hk9⟩
theorem Sync_S (s : ByteArray) (d mb base q k : Nat) (g : Sig) (w : World) (hb : base ≤ w.heap.size) (h : DSig w d mb base g) (hl : Lim q k g) (hk : k ≤ 1000000) :
    Calls Try.prog 13 #[.pointer (some ⟨d, 0, none⟩), .string s] w fun e w' => e = .returned (.int .i64 (syncG s g).1) ∧ DSig w' d mb base (syncG s g).2 ∧ Kept d mb base w w' := by
  obtain ⟨M, C, fu, h1, h2, h3⟩ := id h
  obtain ⟨hn, hm16⟩ := h1.once
  have hN0 := hl.n0
  have hN1 := hl.n1
  unfold syncG
  split
  · rename_i ho
    have hd := h1.dm.2.2.1
    rw [ho] at hd
    refine (Sync_ref d 10 w (.inr rfl) (NoOpen.of_out d mb _ fu s w hd)).mono ?_
    rintro e w' ⟨rfl, hw⟩
    exact ⟨rfl, h.refused hb hw⟩
  rename_i ho
  have ho : g.out = false := by simpa using ho
  rw [ho] at h1
  have hz := atZ_is s g.R
  split
  · rename_i hneg
    obtain ⟨hfo, hno⟩ := h2.no hz hneg
    refine (Sync_ref d 6 w (.inl rfl) (NoOpen.of_none d mb M _ fu w h1.dm hfo)).mono ?_
    rintro e w' ⟨rfl, hw⟩
    exact ⟨rfl, h.refused hb hw⟩
  rename_i hneg
  obtain ⟨f, b, hfm, hfo, hC, hzl, hze⟩ := h2.at hn hz (by omega)
  obtain ⟨i, hi⟩ : ∃ i, i = (atZ s g.R).toNat := ⟨_, rfl⟩
  rw [← hi] at hC hzl hze ⊢
  refine (Sync_G (nm := s) d mb base f M C _ fu w hb h1 hfo).mono ?_
  rintro e w' ⟨z, rfl, hs, hk9⟩
  obtain ⟨e1, e2⟩ := stepped_done (R' := g.R.set i ((g.R.getD i f0).1, runD (g.R.getD i f0).2.1 (g.R.getD i f0).2.2, [])) h3 hN0 (by omega) hs h2 (fun hg => by
    refine ⟨_, _, hg, ?_⟩
    rw [hC]
    exact h2.set hn h1.apart hzl hfm hze _)
  exact ⟨by rw [e1], e2, hk9⟩
theorem Remove_S (s : ByteArray) (d mb base q k : Nat) (g : Sig) (w : World) (hb : base ≤ w.heap.size) (h : DSig w d mb base g) (hl : Lim q k g) (hk : k ≤ 1000000) :
    Calls Try.prog 18 #[.pointer (some ⟨d, 0, none⟩), .string s] w fun e w' => e = .returned (.int .i64 (remG s g).1) ∧ DSig w' d mb base (remG s g).2 ∧ Kept d mb base w w' := by
  obtain ⟨M, C, fu, h1, h2, h3⟩ := id h
  obtain ⟨hn, hm16⟩ := h1.once
  have hN0 := hl.n0
  have hN1 := hl.n1
  unfold remG
  split
  · rename_i ho
    have hd := h1.dm.2.2.1
    rw [ho] at hd
    refine (Remove_ref d 10 w (.inr rfl) (NoOpen.of_out d mb _ fu s w hd)).mono ?_
    rintro e w' ⟨rfl, hw⟩
    exact ⟨rfl, h.refused hb hw⟩
  rename_i ho
  have ho : g.out = false := by simpa using ho
  rw [ho] at h1
  have hz := atZ_is s g.R
  split
  · rename_i hneg
    obtain ⟨hfo, hno⟩ := h2.no hz hneg
    refine (Remove_ref d 6 w (.inl rfl) (NoOpen.of_none d mb M _ fu w h1.dm hfo)).mono ?_
    rintro e w' ⟨rfl, hw⟩
    exact ⟨rfl, h.refused hb hw⟩
  rename_i hneg
  obtain ⟨f, b, hfm, hfo, hC, hzl, hze⟩ := h2.at hn hz (by omega)
  obtain ⟨i, hi⟩ : ∃ i, i = (atZ s g.R).toNat := ⟨_, rfl⟩
  rw [← hi] at hC hzl hze ⊢
  refine (Remove_any s d mb base f M C _ fu w hb h1 hfo).mono ?_
  rintro e w' ⟨z, rfl, hs, hk9⟩
  obtain ⟨e1, e2⟩ := stepped_done (R' := g.R.take i ++ g.R.drop (i + 1)) h3 hN0 (by omega) hs h2 (fun hg => ⟨_, _, hg, h2.del hn hzl hze⟩)
  exact ⟨by rw [e1], e2, hk9⟩
theorem Fuse_S (n : Int) (hn1 : n ≤ 9223372036854775807) (d mb base : Nat) (g : Sig) (w : World) (hb : base ≤ w.heap.size) (h : DSig w d mb base g) :
    Calls Try.prog 24 #[.pointer (some ⟨d, 0, none⟩), .int .i64 n] w fun e w' => e = .returned (.int .i64 (fuseG n g).1) ∧ DSig w' d mb base (fuseG n g).2 ∧ Kept d mb base w w' := by
  obtain ⟨M, C, fu, h1, h2, h3⟩ := h
  unfold fuseG
  refine (Fuse_G d mb base M C n _ fu g.out w hb hn1 h1).mono ?_
  rintro e w' ⟨(⟨q1, rfl, q2⟩ | ⟨q1, rfl, q2⟩), hk⟩
  · rw [if_pos q1]
    exact ⟨rfl, ⟨M, C, fu, q2, h2, h3⟩, hk⟩
  · rw [if_neg (by omega)]
    exact ⟨rfl, ⟨M, C, n, q2, h2, .inr ⟨rfl, rfl, q1⟩⟩, hk⟩
end Go.Proofs.Ytmpjjkfbojhfoaa

/- the disk's calls, each against what it makes of what both disks hold: Rename, Crash, Read, Loose -/
namespace Go.Proofs.Ytmpjjkfbojhfoaa
open Go.RowKit
set_option linter.unusedSectionVars false
variable [Zone]
theorem Mir.self {M : List Ent} {C : Cont} {R : List FileV} (h : Mir M C R) (hn : (M.map (·.1)).Nodup) {nm : ByteArray} {f c : Nat} (hfo : fileOf nm M = some f) : Mir (putE nm f c (delE nm M)) C R := by
  have hn2 := delE_once (nm := nm) hn
  obtain ⟨⟨b', hp1⟩, hp2⟩ := putE_has (nm := nm) (f := f) (c := c) hn2
  refine ⟨h.rise, fun x hx => ?_, fun y hy => ?_⟩
  · obtain ⟨f', b, q1, q2⟩ := h.has x hx
    by_cases e : x.1 = nm
    · have e2 := fileOf_of hn q1
      rw [e, hfo] at e2
      injection e2 with e2
      subst e2
      exact ⟨f, b', e ▸ hp1, q2⟩
    · exact ⟨f', b, hp2 _ ((delE_mem hn).2 ⟨q1, e⟩) e, q2⟩
  · rcases putE_mem hn2 hy with ⟨e, _⟩ | ⟨q1, q2⟩
    · obtain ⟨b, hb⟩ := fileOf_mem hfo
      obtain ⟨x, hx, e2⟩ := h.all _ hb
      exact ⟨x, hx, e2.trans e.symm⟩
    · exact h.all y ((delE_mem hn).1 q1).1
theorem Rename_S (s tt : ByteArray) (hts : tt.size ≤ 1099511627776) (d mb base q k : Nat) (g : Sig) (w : World) (hb : base ≤ w.heap.size) (h : DSig w d mb base g) (hl : Lim q k g) (hk : k ≤ 1000000) :
    Calls Try.prog 27 #[.pointer (some ⟨d, 0, none⟩), .string s, .string tt] w fun e w' => e = .returned (.int .i64 (renG s tt g).1) ∧ DSig w' d mb base (renG s tt g).2 ∧ Kept d mb base w w' := by
  obtain ⟨M, C, fu, h1, h2, h3⟩ := id h
  obtain ⟨hn, hm16⟩ := h1.once
  have hN0 := hl.n0
  have hN1 := hl.n1
  unfold renG
  split
  · rename_i ho
    have hd := h1.dm.2.2.1
    rw [ho] at hd
    refine (Rename_out tt d mb _ fu w hd).mono ?_
    rintro e w' ⟨rfl, hw⟩
    exact ⟨rfl, h.refused hb hw⟩
  rename_i ho
  have ho : g.out = false := by simpa using ho
  rw [ho] at h1
  split
  · rename_i hnt
    refine (Rename_bad tt hts d mb _ fu w hnt h1.dm.2.2.1).mono ?_
    rintro e w' ⟨rfl, hw⟩
    exact ⟨rfl, h.refused hb hw⟩
  rename_i hnt
  have hnt : nameP tt.data.toList = true := by simpa using hnt
  have hz := atZ_is s g.R
  split
  · rename_i hneg
    obtain ⟨hfo, hno⟩ := h2.no hz hneg
    refine (Rename_none tt d mb M _ fu w hnt h1.dm hfo).mono ?_
    rintro e w' ⟨rfl, hw⟩
    exact ⟨rfl, h.refused hb hw⟩
  rename_i hneg
  obtain ⟨f, b, hfm, hfo, hC, hzl, hze⟩ := h2.at hn hz (by omega)
  obtain ⟨i, hi⟩ : ∃ i, i = (atZ s g.R).toNat := ⟨_, rfl⟩
  rw [← hi] at hC hzl hze ⊢
  have hG := Rename_any s tt d mb base f M C _ fu w hb hnt h1 hfo
  split
  · rename_i hL
    refine hG.mono ?_
    rintro e w' ⟨z, rfl, (⟨q1, rfl, q3⟩ | ⟨q1, q2⟩), hk9⟩
    · exact ⟨rfl, ⟨M, C, fu, by rw [ho]; exact q3, h2, h3⟩, hk9⟩
    · rw [hC] at q1
      exact absurd q1 hL
  · rename_i hL
    have hL : (g.R.getD i f0).2.2 = [] := Classical.not_not.1 hL
    refine hG.mono ?_
    rintro e w' ⟨z, rfl, (⟨q1, rfl, q3⟩ | ⟨q1, q2⟩), hk9⟩
    · rw [hC] at q1
      exact absurd hL q1
    · obtain ⟨e1, e2⟩ := stepped_done (R' := if s = tt then g.R else renL tt (g.R.take i ++ g.R.drop (i + 1)) (g.R.getD i f0).2.1) h3 hN0 (by omega) q2 h2 (fun ⟨c, hg⟩ => by
        refine ⟨_, _, hg, ?_⟩
        split
        · rename_i e
          subst e
          exact h2.self hn hfo
        · have hdel := h2.del hn hzl hze
          unfold renL
          refine hdel.put (delE_once hn) (atZ_is _ _) (insK_is _ _) ?_
          rw [hC, ← hL])
      exact ⟨by rw [e1], e2, hk9⟩
theorem crashN_other {M : List Ent} {K : List Int} {f : Nat} : ∀ (L : List FileV) (i : Nat) (C : Cont), (∀ x ∈ L, ∀ g, fileOf x.1 M = some g → g ≠ f) → crashN M K (L.map fun x => nmL x.1) i C f = C f
  | [], _, _, _ => rfl
  | x :: L, i, C, h => by
    rw [List.map_cons, crashN, crashN_other L _ _ (fun y hy => h y (List.mem_cons_of_mem _ hy)), show (⟨(nmL x.1).toArray⟩ : ByteArray) = x.1 by simp]
    have h0 := h x (List.mem_cons_self ..)
    cases hg : fileOf x.1 M with
    | none => rfl
    | some g => exact setC_ne _ _ (fun e => h0 g hg e.symm)
theorem crashN_at {M : List Ent} {K : List Int} {f : Nat} (hap : ∀ (s t : ByteArray) (g : Nat), fileOf s M = some g → fileOf t M = some g → s = t) : ∀ (L : List FileV) (i j : Nat) (C : Cont), L.Pairwise (fun x y => x.1 ≠ y.1) → j < L.length → fileOf (L.getD j f0).1 M = some f → crashN M K (L.map fun x => nmL x.1) i C f = (afterZ (C f).1 (C f).2 (unitK K (i + j) (C f).2), [])
  | x :: L, i, 0, C, hd, _, hf => by
    have hf : fileOf x.1 M = some f := hf
    rw [List.map_cons, crashN, show (⟨(nmL x.1).toArray⟩ : ByteArray) = x.1 by simp, hf]
    rw [crashN_other L _ _ (fun y hy g hg e => ?_)]
    · exact setC_at _ _ _
    · subst e
      exact (List.pairwise_cons.1 hd).1 y hy (hap _ _ _ hf hg)
  | x :: L, i, j + 1, C, hd, hj, hf => by
    have hj : j < L.length := by simpa using hj
    have hf : fileOf (L.getD j f0).1 M = some f := hf
    rw [List.map_cons, crashN, show (⟨(nmL x.1).toArray⟩ : ByteArray) = x.1 by simp]
    have hx : x.1 ≠ (L.getD j f0).1 := (List.pairwise_cons.1 hd).1 _ (getD_mem' hj)
    cases hg : fileOf x.1 M with
    | none =>
      show crashN M K (L.map fun x => nmL x.1) (i + 1) C f = _
      rw [crashN_at hap L (i + 1) j C (List.pairwise_cons.1 hd).2 hj hf, show i + 1 + j = i + (j + 1) by omega]
    | some g =>
      show crashN M K (L.map fun x => nmL x.1) (i + 1) (setC C g (afterZ (C g).1 (C g).2 (unitK K i (C g).2), [])) f = _
      have hne : f ≠ g := fun e => by
        subst e
        exact hx (hap _ _ _ hg hf)
      rw [crashN_at hap L (i + 1) j _ (List.pairwise_cons.1 hd).2 hj hf, setC_ne _ _ hne, show i + 1 + j = i + (j + 1) by omega]
theorem Mir.crash {M : List Ent} {C : Cont} {R : List FileV} (h : Mir M C R) (hn : (M.map (·.1)).Nodup) (hap : ∀ x ∈ M, ∀ y ∈ M, x.2.1 = y.2.1 → x.1 = y.1) (K : List Int) : Mir M (crashN M K (sortN M) 0 C) (crashL K R) := by
  have hap2 : ∀ (s t : ByteArray) (g : Nat), fileOf s M = some g → fileOf t M = some g → s = t := fun s t g h1 h2 => by
    obtain ⟨b1, q1⟩ := fileOf_mem h1
    obtain ⟨b2, q2⟩ := fileOf_mem h2
    exact hap _ q1 _ q2 rfl
  have hd : R.Pairwise (fun x y => x.1 ≠ y.1) := h.rise.imp (fun {a b} hab e => by rw [e] at hab; exact List.lt_irrefl _ hab)
  rw [h.names hn]
  refine ⟨?_, fun x hx => ?_, fun y hy => ?_⟩
  · have h1 := h.rise
    rw [List.pairwise_iff_getElem] at h1 ⊢
    unfold crashL
    intro i j hi hj hij
    rw [List.length_mapIdx] at hi hj
    rw [List.getElem_mapIdx, List.getElem_mapIdx]
    exact h1 i j hi hj hij
  · unfold crashL at hx
    obtain ⟨j, hj, rfl⟩ := List.mem_mapIdx.1 hx
    obtain ⟨f, b, q1, q2⟩ := h.has _ (List.getElem_mem hj)
    refine ⟨f, b, q1, ?_⟩
    have e : R.getD j f0 = R[j] := by rw [List.getD_eq_getElem?_getD, List.getElem?_eq_getElem hj]; rfl
    rw [crashN_at hap2 R 0 j C hd hj (by rw [e]; exact fileOf_of hn q1), q2, Nat.zero_add]
    unfold crashAt
    have hu := unitK_le K j R[j].2.2
    rw [runD_keeps, Int.toNat_of_nonneg hu.1]
  · obtain ⟨x, hx, e⟩ := h.all y hy
    obtain ⟨j, hj, rfl⟩ := List.getElem_of_mem hx
    exact ⟨crashAt K j R[j], List.mem_mapIdx.2 ⟨j, hj, rfl⟩, e⟩
theorem Crash_S (ao : Option Addr) (n cap : Nat) (K : List Int) (d mb base : Nat) (g : Sig) (w : World) (hb : base ≤ w.heap.size) (h : DSig w d mb base g) (hK : IsKeeps w ao n cap K) :
    Calls Try.prog 16 #[.pointer (some ⟨d, 0, none⟩), .slice ao n cap] w fun e w' => e = .returned (.int .i64 (crashG K g).1) ∧ DSig w' d mb base (crashG K g).2 ∧ Kept d mb base w w' := by
  obtain ⟨M, C, fu, h1, h2, h3⟩ := h
  refine (Crash_G d mb base M C _ fu g.out ao n cap K w hb h1 hK).mono ?_
  rintro e w' ⟨rfl, q1, q2⟩
  exact ⟨rfl, ⟨M, _, -1, q1, h2.crash h1.once.1 h1.apart K, .inl ⟨rfl, rfl⟩⟩, q2⟩
theorem Read_S (s : ByteArray) (d mb base : Nat) (g : Sig) (w : World) (h : DSig w d mb base g) :
    Calls Try.prog 28 #[.pointer (some ⟨d, 0, none⟩), .string s] w fun e w' => ∃ v, e = .returned (.tuple #[v, .int .i64 (readG s g).1]) ∧ OwnB w' w.heap.size v (readG s g).2 ∧ Below w.heap.size w w' := by
  obtain ⟨M, C, fu, h1, h2, h3⟩ := id h
  obtain ⟨hn, hm16⟩ := h1.once
  unfold readG
  split
  · rename_i ho
    have hd := h1.dm.2.2.1
    rw [ho] at hd
    refine (Read_ref d 10 w (.inr rfl) (NoOpen.of_out d mb _ fu s w hd)).mono ?_
    rintro e w' ⟨rfl, rfl⟩
    exact ⟨_, rfl, OwnB.nil w _, Below.refl _ _⟩
  rename_i ho
  have ho : g.out = false := by simpa using ho
  rw [ho] at h1
  have hz := atZ_is s g.R
  split
  · rename_i hneg
    obtain ⟨hfo, hno⟩ := h2.no hz hneg
    refine (Read_ref d 6 w (.inl rfl) (NoOpen.of_none d mb M _ fu w h1.dm hfo)).mono ?_
    rintro e w' ⟨rfl, rfl⟩
    exact ⟨_, rfl, OwnB.nil w _, Below.refl _ _⟩
  rename_i hneg
  obtain ⟨f, b, hfm, hfo, hC, hzl, hze⟩ := h2.at hn hz (by omega)
  refine (Read_G (nm := s) d mb base f M C _ fu w h1 hfo).mono ?_
  rintro e w' ⟨v, rfl, hv, hw⟩
  rw [hC] at hv
  exact ⟨v, rfl, hv, hw⟩
theorem Loose_S (s : ByteArray) (d mb base : Nat) (g : Sig) (w : World) (h : DSig w d mb base g) :
    Calls Try.prog 15 #[.pointer (some ⟨d, 0, none⟩), .string s] w fun e w' => e = .returned (.int .i64 (looseG s g)) ∧ w = w' := by
  obtain ⟨M, C, fu, h1, h2, h3⟩ := id h
  obtain ⟨hn, hm16⟩ := h1.once
  have hz := atZ_is s g.R
  unfold looseG
  split
  · rename_i hneg
    obtain ⟨f, b, hfm, hfo, hC, hzl, hze⟩ := h2.at hn hz hneg
    refine (Loose_G (nm := s) d mb base f M C _ fu g.out w h1 hfo).mono ?_
    rintro e w' ⟨rfl, rfl⟩
    rw [hC]
    exact ⟨rfl, rfl⟩
  · rename_i hneg
    obtain ⟨hfo, hno⟩ := h2.no hz (by omega)
    exact Loose_none d mb M _ fu g.out w h1.dm hfo
theorem Names_S (d mb base : Nat) (g : Sig) (w : World) (h : DSig w d mb base g) :
    Calls Try.prog 17 #[.pointer (some ⟨d, 0, none⟩)] w fun e w' => ∃ v, e = .returned v ∧ OwnT w' w.heap.size v (g.R.map (·.1)) ∧ Below w.heap.size w w' := by
  obtain ⟨M, C, fu, h1, h2, h3⟩ := h
  obtain ⟨hn, hm16⟩ := h1.once
  refine (Names_any d mb M _ fu g.out w h1.dm).mono ?_
  rintro e w' ⟨v, rfl, q1, q2, q3⟩
  refine ⟨v, rfl, ?_, q3⟩
  rw [h2.names hn, ← h2.length hn] at q1
  unfold OwnT
  rw [List.length_map, List.map_map]
  rw [List.map_map] at q1
  have e : (encStr ∘ fun x : FileV => nmL x.1) = (Value.string ∘ fun x : FileV => x.1) := by
    funext x
    simp [encStr]
  rw [e] at q1
  exact q1
end Go.Proofs.Ytmpjjkfbojhfoaa

/- the reference's calls, each against what it makes of what both disks hold -/
namespace Go.Proofs.Ytmpjjkfbojhfoaa
open Go.RowKit
set_option linter.unusedSectionVars false
variable [Zone]
theorem rdone {r base : Nat} {g : Sig} {R' : List FileV} {w w' : World} {e : Ending} (ho : g.out = false) (h : RDone r base g.R R' g.N g.fz g.lf w e w') : e = .returned (.int .i64 (doneG g R').1) ∧ RSig w' r base (doneG g R').2 ∧ MovedR r base w w' := by
  obtain ⟨hm, ⟨hc, rfl, h⟩ | ⟨hc, rfl, h⟩⟩ := h
  · unfold doneG
    rw [if_pos hc]
    exact ⟨rfl, h, hm⟩
  · unfold doneG
    rw [if_neg hc]
    exact ⟨rfl, h, hm⟩
theorem RSig.refused {w w' : World} {r base : Nat} {g : Sig} (h : RSig w r base g) (hw : Below w.heap.size w w') : RSig w' r base g ∧ MovedR r base w w' := by
  obtain ⟨h1, h2, h3⟩ := RefAt.grown h hw
  exact ⟨h3, .of_below hw h1 h2⟩
/-- what the reference's calls want. -/
structure RIn (q k : Nat) (g : Sig) : Prop where
  lim : Lim q k g
  hq : q ≤ 4294967296
  hk : k ≤ 100000
  fit : ∀ x ∈ g.R, FitF x
  few : g.R.length ≤ 16
theorem fit0 : FitF f0 := by unfold FitF f0; exact ⟨trivial, by simp [unitsD]⟩
theorem RIn.get {q k : Nat} {g : Sig} (h : RIn q k g) (i : Nat) : FitF (g.R.getD i f0) ∧ (g.R.getD i f0).2.2.length ≤ 100000 := by
  have h2 := (h.lim.get i).2
  have hk := h.hk
  refine ⟨?_, by omega⟩
  by_cases hi : i < g.R.length
  · exact h.fit _ (getD_mem' hi)
  · rw [List.getD_eq_getElem?_getD, List.getElem?_eq_none (by omega)]
    exact fit0
theorem rAppend_S (s : ByteArray) (hss : s.size ≤ 1099511627776) (r base q k : Nat) (g : Sig) (ao : Option Addr) (n cap : Nat) (B : List UInt8) (w : World) (h : RSig w r base g) (hl : RIn q k g) (hz : ZW w) (hB : IsBytes w ao n cap B) (hBK : ∀ w1 w2, Below w.heap.size w w1 → MovedR r base w1 w2 → IsBytes w2 ao n cap B) (hBn : n ≤ 17592186044416) :
    Calls Try.prog 21 #[.pointer (some ⟨r, 0, none⟩), .string s, .slice ao n cap] w fun e w' => e = .returned (.int .i64 (appG s B g).1) ∧ RSig w' r base (appG s B g).2 ∧ MovedR r base w w' := by
  have hN0 := hl.lim.n0
  have hN1 := hl.lim.n1
  have hk := hl.hk
  rcases atZ_is s g.R with ⟨i, hi, hil, his, hib⟩ | ⟨hi, hno⟩
  · refine (rAppend_old s hss ao n cap B i r base g.R g.N g.fz g.lf g.out w hN0 (by omega) hl.lim.l0 hl.lim.l1 hz h (fun j _ => ⟨(hl.get j).1, by have := (hl.get j).2; omega⟩) hB hBK hBn hil his hib).mono ?_
    rintro e w' he
    unfold appG
    rw [hi, if_neg (by omega : ¬ ((i : Int) < 0)), Int.toNat_natCast]
    rcases he with ⟨ho, rfl, rfl⟩ | ⟨ho, ⟨hn, rfl, rfl⟩ | ⟨hn, ⟨hlong, rfl, hw⟩ | ⟨hlong, hd⟩⟩⟩
    · rw [if_pos ho]
      exact ⟨rfl, h, .refl _ _ _⟩
    · rw [if_neg (by rw [ho]; simp), if_pos hn]
      exact ⟨rfl, h, .refl _ _ _⟩
    · rw [if_neg (by rw [ho]; simp), if_neg (by rw [hn]; simp), if_pos hlong]
      exact ⟨rfl, h.refused hw⟩
    · rw [if_neg (by rw [ho]; simp), if_neg (by rw [hn]; simp), if_neg (by omega)]
      exact rdone ho hd
  · refine (rAppend_new s hss ao n cap B r base g.R g.N g.fz g.lf g.out w hN0 (by omega) hl.lim.l0 hl.lim.l1 hz h hB hBK hBn hno).mono ?_
    rintro e w' he
    unfold appG
    rw [hi, if_pos (by omega : ((-1 : Int) < 0))]
    rcases he with ⟨ho, rfl, rfl⟩ | ⟨ho, ⟨hn, rfl, rfl⟩ | ⟨hn, ⟨h16, rfl, rfl⟩ | ⟨h16, ⟨hlong, rfl, rfl⟩ | ⟨hlong, j, hj, hd⟩⟩⟩⟩
    · rw [if_pos ho]
      exact ⟨rfl, h, .refl _ _ _⟩
    · rw [if_neg (by rw [ho]; simp), if_pos hn]
      exact ⟨rfl, h, .refl _ _ _⟩
    · rw [if_neg (by rw [ho]; simp), if_neg (by rw [hn]; simp), if_pos h16]
      exact ⟨rfl, h, .refl _ _ _⟩
    · rw [if_neg (by rw [ho]; simp), if_neg (by rw [hn]; simp), if_neg (by omega), if_pos hlong]
      exact ⟨rfl, h, .refl _ _ _⟩
    · rw [if_neg (by rw [ho]; simp), if_neg (by rw [hn]; simp), if_neg (by omega), if_neg (by omega), ← hj.eq]
      exact rdone ho hd
theorem rCut_S (s : ByteArray) (sz : Int) (r base q k : Nat) (g : Sig) (w : World) (h : RSig w r base g) (hl : RIn q k g) :
    Calls Try.prog 60 #[.pointer (some ⟨r, 0, none⟩), .string s, .int .i64 sz] w fun e w' => e = .returned (.int .i64 (cutG s sz g).1) ∧ RSig w' r base (cutG s sz g).2 ∧ MovedR r base w w' := by
  have hN0 := hl.lim.n0
  have hN1 := hl.lim.n1
  have hk := hl.hk
  refine (rCut_any s sz r base g.R g.N g.fz g.lf g.out w hN0 (by omega) hl.lim.l0 hl.lim.l1 h (fun j _ => ⟨(hl.get j).1, by have := (hl.get j).2; omega⟩)).mono ?_
  rintro e w' he
  unfold cutG
  rcases he with ⟨ho, rfl, rfl⟩ | ⟨ho, z, hz, he⟩
  · rw [if_pos ho]
    exact ⟨rfl, h, .refl _ _ _⟩
  · rw [if_neg (by rw [ho]; simp), ← hz.eq]
    rcases he with ⟨hneg, rfl, rfl⟩ | ⟨hneg, ⟨hs, rfl, hw⟩ | ⟨hs, hd⟩⟩
    · rw [if_pos hneg]
      exact ⟨rfl, h, .refl _ _ _⟩
    · rw [if_neg (by omega), if_pos hs]
      exact ⟨rfl, h.refused hw⟩
    · rw [if_neg (by omega), if_neg (by omega)]
      exact rdone ho hd
theorem rSync_S (s : ByteArray) (r base q k : Nat) (g : Sig) (w : World) (h : RSig w r base g) (hl : RIn q k g) (hzw : ZW w) :
    Calls Try.prog 61 #[.pointer (some ⟨r, 0, none⟩), .string s] w fun e w' => e = .returned (.int .i64 (syncG s g).1) ∧ RSig w' r base (syncG s g).2 ∧ MovedR r base w w' := by
  have hN0 := hl.lim.n0
  have hN1 := hl.lim.n1
  have hk := hl.hk
  refine (rSync_any s r base g.R g.N g.fz g.lf g.out w hN0 (by omega) hl.lim.l0 hl.lim.l1 hzw h (fun j _ => (hl.get j).1)).mono ?_
  rintro e w' he
  unfold syncG
  rcases he with ⟨ho, rfl, rfl⟩ | ⟨ho, z, hz, he⟩
  · rw [if_pos ho]
    exact ⟨rfl, h, .refl _ _ _⟩
  · rw [if_neg (by rw [ho]; simp), ← hz.eq]
    rcases he with ⟨hneg, rfl, rfl⟩ | ⟨hneg, hd⟩
    · rw [if_pos hneg]
      exact ⟨rfl, h, .refl _ _ _⟩
    · rw [if_neg (by omega)]
      exact rdone ho hd
theorem rRemove_S (s : ByteArray) (r base q k : Nat) (g : Sig) (w : World) (h : RSig w r base g) (hl : RIn q k g) :
    Calls Try.prog 63 #[.pointer (some ⟨r, 0, none⟩), .string s] w fun e w' => e = .returned (.int .i64 (remG s g).1) ∧ RSig w' r base (remG s g).2 ∧ MovedR r base w w' := by
  have hN0 := hl.lim.n0
  have hN1 := hl.lim.n1
  have hk := hl.hk
  have hf := hl.few
  refine (rRemove_any s r base g.R g.N g.fz g.lf g.out w hN0 (by omega) hl.lim.l0 hl.lim.l1 h (by omega)).mono ?_
  rintro e w' he
  unfold remG
  rcases he with ⟨ho, rfl, rfl⟩ | ⟨ho, z, hz, he⟩
  · rw [if_pos ho]
    exact ⟨rfl, h, .refl _ _ _⟩
  · rw [if_neg (by rw [ho]; simp), ← hz.eq]
    rcases he with ⟨hneg, rfl, rfl⟩ | ⟨hneg, hd⟩
    · rw [if_pos hneg]
      exact ⟨rfl, h, .refl _ _ _⟩
    · rw [if_neg (by omega)]
      exact rdone ho hd
theorem rRename_S (s tt : ByteArray) (hts : tt.size ≤ 1099511627776) (r base q k : Nat) (g : Sig) (w : World) (h : RSig w r base g) (hl : RIn q k g) :
    Calls Try.prog 62 #[.pointer (some ⟨r, 0, none⟩), .string s, .string tt] w fun e w' => e = .returned (.int .i64 (renG s tt g).1) ∧ RSig w' r base (renG s tt g).2 ∧ MovedR r base w w' := by
  have hN0 := hl.lim.n0
  have hN1 := hl.lim.n1
  have hk := hl.hk
  have hf := hl.few
  refine (rRename_any s tt hts r base g.R g.N g.fz g.lf g.out w hN0 (by omega) hl.lim.l0 hl.lim.l1 h (by omega)).mono ?_
  rintro e w' he
  unfold renG
  rcases he with ⟨ho, rfl, rfl⟩ | ⟨ho, ⟨hn, rfl, rfl⟩ | ⟨hn, z, hz, he⟩⟩
  · rw [if_pos ho]
    exact ⟨rfl, h, .refl _ _ _⟩
  · rw [if_neg (by rw [ho]; simp), if_pos hn]
    exact ⟨rfl, h, .refl _ _ _⟩
  · rw [if_neg (by rw [ho]; simp), if_neg (by rw [hn]; simp), ← hz.eq]
    rcases he with ⟨hneg, rfl, rfl⟩ | ⟨hneg, ⟨hs, rfl, rfl⟩ | ⟨hs, hd⟩⟩
    · rw [if_pos hneg]
      exact ⟨rfl, h, .refl _ _ _⟩
    · rw [if_neg (by omega), if_pos hs]
      exact ⟨rfl, h, .refl _ _ _⟩
    · rw [if_neg (by omega), if_neg (by rw [hs]; simp)]
      rcases hd with ⟨hst, hd⟩ | ⟨hst, R', hR', hd⟩
      · rw [if_pos hst]
        exact rdone ho hd
      · rw [if_neg hst, ← hR'.eq]
        exact rdone ho hd
theorem rFuse_S (n : Int) (r base : Nat) (g : Sig) (w : World) (h : RSig w r base g) :
    Calls Try.prog 64 #[.pointer (some ⟨r, 0, none⟩), .int .i64 n] w fun e w' => e = .returned (.int .i64 (fuseG n g).1) ∧ RSig w' r base (fuseG n g).2 ∧ MovedR r base w w' := by
  refine (rFuse_any r base g.R g.N g.fz g.lf n g.out w h).mono ?_
  rintro e w' ⟨hm, ⟨h1, rfl, h2⟩ | ⟨h1, rfl, h2⟩⟩
  · unfold fuseG
    rw [if_pos h1]
    exact ⟨rfl, h2, hm⟩
  · unfold fuseG
    rw [if_neg (by omega)]
    exact ⟨rfl, h2, hm⟩
theorem rCrash_S (r base q k : Nat) (g : Sig) (ao : Option Addr) (kn kc : Nat) (K : List Int) (w : World) (hzw : ZW w) (h : RSig w r base g) (hl : RIn q k g) (hbase : base ≤ w.heap.size)
    (hKl : K.length = kn) (hkc : kn ≤ kc ∧ kc ≤ maxLen) (hK : ∀ w', MovedR r base w w' → ∀ i, i < kn → ∃ b off x, ao = some ⟨b, off, none⟩ ∧ w'.cell? ⟨b, off + i, none⟩ = some (.int .i64 x) ∧ K.getD i 0 = x ∧ -9223372036854775808 ≤ x ∧ x ≤ 9223372036854775807) :
    Calls Try.prog 66 #[.pointer (some ⟨r, 0, none⟩), .slice ao kn kc] w fun e w' => e = .returned (.int .i64 (crashG K g).1) ∧ RSig w' r base (crashG K g).2 ∧ MovedR r base w w' := by
  refine (rCrash_any r base g.R g.N g.fz g.lf g.out ao kn kc K w hzw h (fun j _ => hl.get j) hbase hKl hkc hK).mono ?_
  rintro e w' ⟨rfl, ⟨L, h1, h2⟩, hm⟩
  rw [h2.eq] at h1
  exact ⟨rfl, h1, hm⟩
theorem rRead_S (s : ByteArray) (r base q k : Nat) (g : Sig) (w : World) (h : RSig w r base g) (hl : RIn q k g) :
    Calls Try.prog 68 #[.pointer (some ⟨r, 0, none⟩), .string s] w fun e w' => ∃ v, e = .returned (.tuple #[v, .int .i64 (readG s g).1]) ∧ OwnB w' w.heap.size v (readG s g).2 ∧ Below w.heap.size w w' := by
  refine (rRead_any s r base g.R g.N g.fz g.lf g.out w h (fun j _ => (hl.get j).1)).mono ?_
  rintro e w' ⟨z, hz, ⟨v, c, rfl, he⟩, hw⟩
  unfold readG
  rw [← hz.eq]
  rcases he with ⟨ho, rfl, rfl⟩ | ⟨ho, hneg, rfl, rfl⟩ | ⟨ho, hneg, rfl, hv⟩
  · rw [if_pos ho]
    exact ⟨_, rfl, OwnB.nil _ _, hw⟩
  · rw [if_neg (by rw [ho]; simp), if_pos hneg]
    exact ⟨_, rfl, OwnB.nil _ _, hw⟩
  · rw [if_neg (by rw [ho]; simp), if_neg (by omega)]
    exact ⟨_, rfl, hv, hw⟩
theorem rLoose_S (s : ByteArray) (r base q k : Nat) (g : Sig) (w : World) (h : RSig w r base g) (hl : RIn q k g) :
    Calls Try.prog 22 #[.pointer (some ⟨r, 0, none⟩), .string s] w fun e w' => e = .returned (.int .i64 (looseG s g)) ∧ Below w.heap.size w w' := by
  refine (rLoose_any s r base g.R g.N g.fz g.lf g.out w h (fun j _ => (hl.get j).1)).mono ?_
  rintro e w' ⟨z, hz, rfl, hw⟩
  unfold looseG
  rw [← hz.eq]
  exact ⟨rfl, hw⟩
theorem rNames_S (r base q k : Nat) (g : Sig) (w : World) (h : RSig w r base g) (hl : RIn q k g) :
    Calls Try.prog 33 #[.pointer (some ⟨r, 0, none⟩)] w fun e w' => ∃ v, e = .returned v ∧ OwnT w' w.heap.size v (g.R.map (·.1)) ∧ Below w.heap.size w w' :=
  rNames_any r base g.R g.N g.fz g.lf g.out w (by have := hl.few; omega) h
end Go.Proofs.Ytmpjjkfbojhfoaa

/- both disks side by side: what is done to the one leaves the other; another block apart -/
namespace Go.Proofs.Ytmpjjkfbojhfoaa
open Go.RowKit
set_option linter.unusedSectionVars false
theorem RefAt.typed [Zone] {w : World} {r base : Nat} {R : List FileV} {N lf : Int} {fz out : Bool} (h : RefAt w r base R N fz lf out) {j : Nat} (hj : j = r ∨ listOf w r = some j) : Plain w j ∧ ∃ c t fr, w.heap[j]? = some (.cells c t fr) ∧ (t = 43 ∨ t = 90) := by
  rcases hj with rfl | hj
  · obtain ⟨_, v, T, hr, hown, hf⟩ := h
    obtain ⟨a, cap, rfl, _⟩ := hown.is3
    exact ⟨plain_of_cells hr (by simp [plainV]), _, _, _, hr, .inl rfl⟩
  · obtain ⟨c, fr, hg, hp⟩ := h.listed hj
    refine ⟨?_, _, _, _, hg, .inr rfl⟩
    intro off v hc
    simp only [World.cell?, hg] at hc
    exact hp _ (Array.mem_of_getElem? hc)
theorem DSig.keptR [Zone] {w w' : World} {d mb base r base2 : Nat} {g g2 : Sig} (h : DSig w d mb base g) (hr : RSig w r base2 g2) (hm : MovedR r base2 w w') : DSig w' d mb base g := by
  obtain ⟨M, C, fu, h1, h2, h3⟩ := h
  obtain ⟨q1, q2, q3, c, q4, q5⟩ := h1.dm
  have hr : RefAt w r base2 g2.R g2.N g2.fz g2.lf g2.out := hr
  have hd : w'.heap[d]? = w.heap[d]? := hr.kept hm q3 (by decide) (by decide)
  have hmb : w'.heap[mb]? = w.heap[mb]? := hr.kept_map hm q5
  have hoth : ∀ y ∈ M, FileOwn w' y.2.1 base (C y.2.1).1 (C y.2.1).2 ∧ rowOf w' y.2.1 = rowOf w y.2.1 := fun y hy => by
    have hf := (h1.own y hy).2
    obtain ⟨cf, tf, hcf⟩ := hf.row
    have hne : ∀ (c : Array Value) (t t' : TypeId) (fr fr' : Nat × Nat) (c' : Array Value) (j : Nat), w.heap[j]? = some (.cells c t fr) → w.heap[j]? = some (.cells c' t' fr') → t = t' := fun c t t' fr fr' c' j a b => by
      rw [a] at b
      injection b with b
      injection b
    refine ⟨hf.moved (fun j => j = r ∨ listOf w r = some j) (fun j e => (hr.typed e).1) (fun e => ?_) (fun c t j e => ?_) (fun j hj hn => hm.block j hj (fun e => hn (.inl e)) (fun e => hn (.inr e))), rowOf_same (hr.kept hm hcf (by decide) (by decide))⟩
    · obtain ⟨_, c2, t2, fr2, e2, e3⟩ := hr.typed e
      have := hne _ _ _ _ _ _ _ hcf e2
      subst this
      rcases e3 with e3 | e3 <;> exact absurd e3 (by decide)
    · obtain ⟨_, c2, t2, fr2, e2, e3⟩ := hr.typed e
      intro e4
      have := hne _ _ _ _ _ _ _ e4 e2
      subst this
      rcases e3 with e3 | e3 <;> exact absurd e3 (by decide)
  refine ⟨M, C, fu, ⟨⟨q1, q2, hd.trans q3, c, q4, hmb.trans q5⟩, h1.low, fun x hx => ⟨(h1.own x hx).1, (hoth x hx).1⟩, h1.apart, fun x hx y hy hne k hk => ?_, h1.zone.mono hm.below.size⟩, h2, h3⟩
  rw [(hoth x hx).2] at hk
  rw [(hoth y hy).2]
  exact h1.rows x hx y hy hne k hk
theorem DSig.map [Zone] {w : World} {d mb base : Nat} {g : Sig} (h : DSig w d mb base g) : ∃ st fu out es c, DiskRow w d mb st fu out ∧ w.heap[mb]? = some (.map es c) := by
  obtain ⟨M, C, fu, h1, h2, h3⟩ := h
  obtain ⟨q1, q2, q3, c, q4, q5⟩ := h1.dm
  exact ⟨_, _, _, _, _, q3, q5⟩
theorem Kept.u8s {d mb base : Nat} {w w' : World} {st fu : Int} {out : Bool} {es : Array MapEntry} {cl : Nat} (h : Kept d mb base w w') (hd : DiskRow w d mb st fu out) (hm : w.heap[mb]? = some (.map es cl)) {j off : Nat} {v : Int} (hc : w.cell? ⟨j, off, none⟩ = some (.int .u8 v)) : w'.heap[j]? = w.heap[j]? := by
  refine h.u8 j off v hc ?_ ?_
  · rintro rfl
    have := hd.plain _ _ hc
    simp [plainV] at this
  · rintro rfl
    have := map_plain hm _ _ hc
    simp [plainV] at this
theorem RSig.keptD [Zone] {w w' : World} {d mb base r base2 : Nat} {g g2 : Sig} (h : RSig w r base2 g) (hd : DSig w d mb base g2) (k : Kept d mb base w w') : RSig w' r base2 g := by
  obtain ⟨st, fu, out, es, c, q3, q5⟩ := hd.map
  obtain ⟨h0, v, T, h1, h2, h3⟩ := h
  refine ⟨h0, v, T, (k.cells q3 q5 h1 (by decide)).trans h1, h2.move (fun j hj => ?_), h3.moved (fun j off v hc => k.u8s q3 q5 hc) (fun j c fr hj => k.cells q3 q5 hj (by decide))⟩
  rcases h2.1.2 with ⟨rfl, _⟩ | ⟨g', cap', cur, rfl, _, hg', _⟩
  · simp [Value.ownBlock] at hj
  · simp only [Value.ownBlock, Option.some.injEq] at hj
    subst hj
    exact k.cells q3 q5 hg' (by decide)
/-- another block apart. -/
theorem IsBytesZ.rezone {Z1 Z2 : Zone} {w w' : World} {a : Option Addr} {m c : Nat} {l : List UInt8} (h : @IsBytesZ Z1 w a m c l) (hbl : ∀ j, j < w.heap.size → Z1.g ≠ some j → w'.heap[j]? = w.heap[j]?) (hz : ∀ k, Z2.g = some k → Z1.g = some k ∨ w.heap.size ≤ k) : @IsBytesZ Z2 w' a m c l := by
  obtain ⟨hb, hzs⟩ := h
  refine ⟨hb.at_block (fun hm ad e => ?_), fun hm ad e hk => ?_⟩
  · subst e
    exact hbl _ (hb.block_lt hm) (hzs hm ad rfl)
  · subst e
    rcases hz _ hk with r | r
    · exact hzs hm ad rfl r
    · have := hb.block_lt hm
      omega
theorem RSig.rezone {Z1 Z2 : Zone} {w w' : World} {r base : Nat} {g : Sig} (h : @RSig Z1 w r base g) (hbl : ∀ j, j < w.heap.size → Z1.g ≠ some j → w'.heap[j]? = w.heap[j]?) (hty : ∀ k, Z1.g = some k → ∃ c fr, w.heap[k]? = some (.cells c 5 fr))
    (hz : ∀ k, Z2.g = some k → Z1.g = some k ∨ w.heap.size ≤ k) : @RSig Z2 w' r base g := by
  have hcell : ∀ {j : Nat} {c : Array Value} {t : TypeId} {fr : Nat × Nat}, w.heap[j]? = some (.cells c t fr) → t ≠ 5 → w'.heap[j]? = w.heap[j]? := by
    intro j c t fr hj ht
    refine hbl j (heap_lt hj) (fun e => ?_)
    obtain ⟨c', fr', hk⟩ := hty j e
    rw [hk] at hj
    injection hj with hj
    injection hj with _ hj
    exact ht hj.symm
  obtain ⟨h0, v, T, h1, h2, h3, h4⟩ := h
  refine ⟨h0, v, T, (hcell h1 (by decide)).trans h1, h2.move (fun j hj => ?_), h3, fun i hi => ?_⟩
  · rcases h2.1.2 with ⟨rfl, _⟩ | ⟨g', cap', cur, rfl, _, hg', _⟩
    · simp [Value.ownBlock] at hj
    · simp only [Value.ownBlock, Option.some.injEq] at hj
      subst hj
      exact hcell hg' (by decide)
  · obtain ⟨e0, ⟨a, n, c, e, hb⟩, ⟨a2, n2, c2, e2, T2, hi3, hl2, ha⟩⟩ := h4 i hi
    refine ⟨e0, ⟨a, n, c, e, IsBytesZ.rezone (Z1 := Z1) (Z2 := Z2) hb hbl hz⟩, ⟨a2, n2, c2, e2, T2, hi3.move (fun j c fr hj => hcell hj (by decide)), hl2, fun i2 hi2 => ?_⟩⟩
    have := ha i2 hi2
    cases hd : ((g.R.getD i f0).2.2).getD i2 (.cut 0) with
    | more x =>
      rw [hd] at this
      obtain ⟨p0, p1, a3, n3, c3, e3, hb3⟩ := this
      exact ⟨p0, p1, a3, n3, c3, e3, IsBytesZ.rezone (Z1 := Z1) (Z2 := Z2) hb3 hbl hz⟩
    | cut z =>
      rw [hd] at this
      exact this
theorem DSig.rezone {Z1 Z2 : Zone} {w w' : World} {d mb base : Nat} {g : Sig} (h : @DSig Z1 w d mb base g) (hsz : w.heap.size ≤ w'.heap.size) (hbl : ∀ j, j < w.heap.size → Z1.g ≠ some j → w'.heap[j]? = w.heap[j]?) (hty : ∀ k, Z1.g = some k → ∃ c fr, w.heap[k]? = some (.cells c 5 fr))
    (hz : ∀ k, Z2.g = some k → (Z1.g = some k ∨ w.heap.size ≤ k) ∧ k < w'.heap.size) : @DSig Z2 w' d mb base g := by
  obtain ⟨M, C, fu, h1, h2, h3⟩ := h
  exact ⟨M, C, fu, DiskG.rezone (Z1 := Z1) (Z2 := Z2) h1 hsz hbl hty hz, h2, h3⟩
end Go.Proofs.Ytmpjjkfbojhfoaa
