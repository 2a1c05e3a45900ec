/- disk: all files of a disk -/
import Derived.Test.YtmpjjkfbojhfoaaNames
namespace Go.Proofs.Ytmpjjkfbojhfoaa
open Go.RowKit
set_option linter.unusedSectionVars false
variable [Zone]
/-- what files have: safe bytes, what is under way. -/
abbrev Cont := Nat → List UInt8 × List Deed
def setC (C : Cont) (f : Nat) (v : List UInt8 × List Deed) : Cont := fun g => if g = f then v else C g
theorem setC_same (C : Cont) (f : Nat) : setC C f (C f) = C := by
  funext g
  unfold setC
  split
  · rename_i h; rw [h]
  · rfl
theorem setC_at (C : Cont) (f : Nat) (v : List UInt8 × List Deed) : setC C f v f = v := if_pos rfl
theorem setC_ne (C : Cont) {f g : Nat} (v : List UInt8 × List Deed) (h : g ≠ f) : setC C f v g = C g := if_neg h
/-- a disk with all its files, each in memory of its own. -/
structure DiskG (w : World) (st fu : Int) (out : Bool) (d mb base : Nat) (M : List Ent) (C : Cont) : Prop where
  dm : DiskM w st fu out d mb M
  low : base ≤ mb
  own : ∀ x ∈ M, base ≤ x.2.1 ∧ FileOwn w x.2.1 base (C x.2.1).1 (C x.2.1).2
  apart : ∀ x ∈ M, ∀ y ∈ M, x.2.1 = y.2.1 → x.1 = y.1
  rows : ∀ x ∈ M, ∀ y ∈ M, x.2.1 ≠ y.2.1 → ∀ k, rowOf w x.2.1 = some k → rowOf w y.2.1 ≠ some k
  zone : ZW w
/-- what a call of a disk leaves as it was. -/
structure Kept (d mb base : Nat) (w w' : World) : Prop where
  below : Below base w w'
  keep : ∀ j, j < w.heap.size → j ≠ d → j ≠ mb → (∀ c t, w.heap[j]? ≠ some (.cells c 76 t)) → (∀ c t, w.heap[j]? ≠ some (.cells c 101 t)) → w'.heap[j]? = w.heap[j]?
theorem Kept.trans {d mb base : Nat} {a b c : World} (h : Kept d mb base a b) (k : Kept d mb base b c) : Kept d mb base a c := by
  refine ⟨h.below.trans k.below, fun j hj h1 h2 h3 h4 => ?_⟩
  have e := h.keep j hj h1 h2 h3 h4
  exact (k.keep j (Nat.lt_of_lt_of_le hj h.below.size) h1 h2 (by rw [e]; exact h3) (by rw [e]; exact h4)).trans e
theorem Kept.refl (d mb base : Nat) (w : World) : Kept d mb base w w := ⟨Below.refl _ _, fun _ _ _ _ _ _ => rfl⟩
theorem Kept.of_below {d mb base : Nat} {w w' : World} (h : Below w.heap.size w w') (hb : base ≤ w.heap.size) : Kept d mb base w w' := ⟨h.mono hb, fun j hj _ _ _ _ => h.block j hj⟩
theorem rowOf_new {w : World} {f : Nat} (h : w.heap.size ≤ f) : rowOf w f = none := by
  unfold rowOf World.cell?
  rw [Array.getElem?_eq_none h]
theorem FileOwn.rowOf {w : World} {f base k : Nat} {S : List UInt8} {D : List Deed} (h : FileOwn w f base S D) (hk : rowOf w f = some k) : base ≤ k ∧ ∃ c t, w.heap[k]? = some (.cells c 101 t) := by
  obtain ⟨⟨ao, n, cap, lv, hr, hs, hds⟩, _, _⟩ := h
  rw [rowOf_row hr] at hk
  exact hds.deed_block hk
theorem FileOwn.row {w : World} {f base : Nat} {S : List UInt8} {D : List Deed} (h : FileOwn w f base S D) : ∃ c t, w.heap[f]? = some (.cells c 76 t) := by
  obtain ⟨⟨ao, n, cap, lv, hr, hs, hds⟩, _, _⟩ := h
  exact ⟨_, _, hr⟩
theorem Kept.of_moved {d mb f base : Nat} {w w' : World} (h : Moved d mb f w w') (hmd : mb < d) (h1 : base ≤ mb) (hb : base ≤ w.heap.size) (hf : (base ≤ f ∧ ∃ S D, FileOwn w f base S D) ∨ w.heap.size ≤ f) : Kept d mb base w w' := by
  have hrow : ∀ k, rowOf w f = some k → base ≤ k ∧ ∃ c t, w.heap[k]? = some (.cells c 101 t) := by
    intro k hk
    rcases hf with ⟨_, S, D, hf⟩ | hf
    · exact hf.rowOf hk
    · rw [rowOf_new hf] at hk; cases hk
  refine ⟨⟨h.os, h.tape, h.output, h.size, fun j hj => h.block j (by omega) (by omega) (by omega) (by rcases hf with ⟨hf, _⟩ | hf <;> omega) (fun e => ?_)⟩, fun j hj h2 h3 h4 h5 => h.block j hj h2 h3 ?_ (fun e => ?_)⟩
  · have := (hrow j e).1
    omega
  · rintro rfl
    rcases hf with ⟨_, S, D, hf⟩ | hf
    · obtain ⟨c, t, hc⟩ := hf.row
      exact h4 c t hc
    · omega
  · obtain ⟨c, t, hc⟩ := (hrow j e).2
    exact h5 c t hc
theorem FileOwn.other {w w' : World} {d mb f g base base' c : Nat} {es : Array MapEntry} {st fu : Int} {out : Bool} {S : List UInt8} {D : List Deed} (hg : FileOwn w g base S D) (hd : DiskRow w d mb st fu out) (hm : w.heap[mb]? = some (.map es c))
    (hf : (∃ S D, FileOwn w f base' S D) ∨ w.heap.size ≤ f) (hne : g ≠ f) (hrow : ∀ k, Go.Proofs.Ytmpjjkfbojhfoaa.rowOf w g = some k → Go.Proofs.Ytmpjjkfbojhfoaa.rowOf w f ≠ some k) (hmv : Moved d mb f w w') : FileOwn w' g base S D ∧ Go.Proofs.Ytmpjjkfbojhfoaa.rowOf w' g = Go.Proofs.Ytmpjjkfbojhfoaa.rowOf w g := by
  have hgl := hg.at.lt
  have hgd := hg.at.ne_disk hd
  have hgm := hg.at.ne_map hm
  have hfrow : ∀ k, Go.Proofs.Ytmpjjkfbojhfoaa.rowOf w f = some k → ∃ c t, w.heap[k]? = some (.cells c 101 t) := by
    intro k hk
    rcases hf with ⟨S, D, hf⟩ | hf
    · exact (hf.rowOf hk).2
    · rw [rowOf_new hf] at hk; cases hk
  obtain ⟨⟨ao, n, cap, lv, hr, hs, hds⟩, q1, q2⟩ := hg
  have hgsame : w'.heap[g]? = w.heap[g]? := by
    refine hmv.block g hgl hgd hgm hne (fun e => ?_)
    obtain ⟨c', t', hc⟩ := hfrow g e
    unfold FileRow at hr
    rw [hr] at hc
    simp at hc
  have hu8 : ∀ j off v, w.cell? ⟨j, off, none⟩ = some (.int .u8 v) → w'.heap[j]? = w.heap[j]? := by
    intro j off v hc
    have hjl : j < w.heap.size := block_lt_of_cell hc
    refine hmv.block j hjl ?_ ?_ ?_ (fun e => ?_)
    · rintro rfl; have := hd.plain _ _ hc; simp [plainV] at this
    · rintro rfl; have := map_plain hm _ _ hc; simp [plainV] at this
    · rintro rfl
      rcases hf with ⟨S, D, hf⟩ | hf
      · obtain ⟨⟨ao, n, cap, lv, hr', _, hds'⟩, _, _⟩ := hf
        obtain ⟨al, capl, rfl, _⟩ := hds'.deeds
        have := hr'.plain _ _ hc; simp [plainV] at this
      · omega
    · rcases hf with ⟨S, D, hf⟩ | hf
      · obtain ⟨⟨ao, n, cap, lv, hr', _, hds'⟩, _, _⟩ := hf
        rw [rowOf_row hr'] at e
        exact hds'.ne_u8 hc e.symm
      · rw [rowOf_new hf] at e; cases e
  refine ⟨⟨⟨ao, n, cap, lv, hgsame.trans hr, hs.moved hu8, hds.moved hu8 (fun k hk => ?_)⟩, q1, q2⟩, rowOf_same hgsame⟩
  obtain ⟨c', t', hc⟩ := (hds.deed_block hk).2
  refine hmv.block k (heap_lt hc) ?_ ?_ ?_ (hrow k (by rw [rowOf_row hr]; exact hk))
  · rintro rfl; unfold DiskRow at hd; rw [hd] at hc; simp at hc
  · rintro rfl; rw [hm] at hc; cases hc
  · rintro rfl
    rcases hf with ⟨S, D, hf⟩ | hf
    · obtain ⟨c2, t2, hc2⟩ := hf.row
      rw [hc2] at hc
      simp at hc
    · exact absurd (heap_lt hc) (by omega)
theorem DiskG.moved {w w' : World} {st fu st' fu' : Int} {out out' : Bool} {d mb base : Nat} {M : List Ent} {C : Cont} {S' : List UInt8} {D' : List Deed} (h : DiskG w st fu out d mb base M C) {x : Ent} (hx : x ∈ M) (hb : base ≤ w.heap.size) (hmv : Moved d mb x.2.1 w w') (hdm : DiskM w' st' fu' out' d mb M) (hf : FileOwn w' x.2.1 base S' D') :
    DiskG w' st' fu' out' d mb base M (setC C x.2.1 (S', D')) ∧ Kept d mb base w w' := by
  obtain ⟨q1, q2, q3, c, q4, q5⟩ := h.dm
  have hfx := (h.own x hx).2
  have hoth : ∀ y ∈ M, y.2.1 ≠ x.2.1 → FileOwn w' y.2.1 base (C y.2.1).1 (C y.2.1).2 ∧ rowOf w' y.2.1 = rowOf w y.2.1 := fun y hy hne =>
    (h.own y hy).2.other q3 q5 (.inl ⟨_, _, hfx⟩) hne (h.rows y hy x hx hne) hmv
  have hlt : ∀ y ∈ M, ∀ k, rowOf w y.2.1 = some k → k < w.heap.size := fun y hy k hk => by
    obtain ⟨_, c, t, hc⟩ := (h.own y hy).2.rowOf hk
    exact heap_lt hc
  refine ⟨⟨hdm, h.low, fun y hy => ⟨(h.own y hy).1, ?_⟩, h.apart, fun y hy z hz hne k hk => ?_, h.zone.mono hmv.size⟩, .of_moved hmv q2 h.low hb (.inl ⟨(h.own x hx).1, _, _, hfx⟩)⟩
  · by_cases e : y.2.1 = x.2.1
    · rw [e, setC_at]
      exact hf
    · rw [setC_ne _ _ e]
      exact (hoth y hy e).1
  · by_cases e1 : y.2.1 = x.2.1
    · have e2 : z.2.1 ≠ x.2.1 := fun e => hne (e1.trans e.symm)
      rw [(hoth z hz e2).2]
      rw [e1] at hk
      rcases hmv.row k hk with r | r
      · exact h.rows x hx z hz (fun e => e2 e.symm) k r
      · exact fun e => absurd (hlt z hz k e) (by omega)
    · rw [(hoth y hy e1).2] at hk
      by_cases e2 : z.2.1 = x.2.1
      · rw [e2]
        intro e
        rcases hmv.row k e with r | r
        · exact h.rows y hy x hx e1 k hk r
        · have := hlt y hy k hk
          omega
      · rw [(hoth z hz e2).2]
        exact h.rows y hy z hz hne k hk
/-- nothing of the files changes. -/
theorem DiskG.stay {w w' : World} {st fu st' fu' : Int} {out out' : Bool} {d mb base f : Nat} {M : List Ent} {C : Cont} (h : DiskG w st fu out d mb base M C) (hb : base ≤ w.heap.size) (hmv : Moved d mb f w w') (hnew : w.heap.size ≤ f) (hdm : DiskM w' st' fu' out' d mb M) :
    DiskG w' st' fu' out' d mb base M C ∧ Kept d mb base w w' := by
  obtain ⟨q1, q2, q3, c, q4, q5⟩ := h.dm
  have hoth : ∀ y ∈ M, FileOwn w' y.2.1 base (C y.2.1).1 (C y.2.1).2 ∧ rowOf w' y.2.1 = rowOf w y.2.1 := fun y hy =>
    (h.own y hy).2.other (base' := base) q3 q5 (.inr hnew) (by have := (h.own y hy).2.at.lt; omega) (fun k _ => by rw [rowOf_new hnew]; exact fun e => by cases e) hmv
  refine ⟨⟨hdm, h.low, fun y hy => ⟨(h.own y hy).1, (hoth y hy).1⟩, h.apart, fun y hy z hz hne k hk => ?_, h.zone.mono hmv.size⟩, .of_moved hmv q2 h.low hb (.inr hnew)⟩
  rw [(hoth y hy).2] at hk
  rw [(hoth z hz).2]
  exact h.rows y hy z hz hne k hk
/-- a file more. -/
theorem DiskG.push {w w' : World} {st fu st' fu' : Int} {out out' : Bool} {d mb base f c : Nat} {nm : ByteArray} {M : List Ent} {C : Cont} {S' : List UInt8} {D' : List Deed} (h : DiskG w st fu out d mb base M C) (hb : base ≤ w.heap.size) (hmv : Moved d mb f w w') (hnew : w.heap.size ≤ f)
    (hdm : DiskM w' st' fu' out' d mb (M ++ [(nm, f, c)])) (hf : FileOwn w' f base S' D') :
    DiskG w' st' fu' out' d mb base (M ++ [(nm, f, c)]) (setC C f (S', D')) ∧ Kept d mb base w w' := by
  obtain ⟨q1, q2, q3, cc, q4, q5⟩ := h.dm
  have hne : ∀ y ∈ M, y.2.1 ≠ f := fun y hy => by have := (h.own y hy).2.at.lt; omega
  have hoth : ∀ y ∈ M, FileOwn w' y.2.1 base (C y.2.1).1 (C y.2.1).2 ∧ rowOf w' y.2.1 = rowOf w y.2.1 := fun y hy =>
    (h.own y hy).2.other (base' := base) q3 q5 (.inr hnew) (hne y hy) (fun k _ => by rw [rowOf_new hnew]; exact fun e => by cases e) hmv
  have hlt : ∀ y ∈ M, ∀ k, rowOf w y.2.1 = some k → k < w.heap.size := fun y hy k hk => by
    obtain ⟨_, c, t, hc⟩ := (h.own y hy).2.rowOf hk
    exact heap_lt hc
  have hfr : ∀ k, rowOf w' f = some k → w.heap.size ≤ k := fun k hk => by
    rcases hmv.row k hk with r | r
    · rw [rowOf_new hnew] at r; cases r
    · exact r
  refine ⟨⟨hdm, h.low, fun y hy => ?_, ?_, fun y hy z hz hyz k hk => ?_, h.zone.mono hmv.size⟩, .of_moved hmv q2 h.low hb (.inr hnew)⟩
  · rcases List.mem_append.1 hy with hy | hy
    · rw [setC_ne _ _ (hne y hy)]
      exact ⟨(h.own y hy).1, (hoth y hy).1⟩
    · simp only [List.mem_singleton] at hy
      subst hy
      refine ⟨by dsimp only; omega, ?_⟩
      dsimp only
      rw [setC_at]
      exact hf
  · intro y hy z hz e
    rcases List.mem_append.1 hy with hy | hy <;> rcases List.mem_append.1 hz with hz | hz
    · exact h.apart y hy z hz e
    · simp only [List.mem_singleton] at hz
      subst hz
      exact absurd e (hne y hy)
    · simp only [List.mem_singleton] at hy
      subst hy
      exact absurd e.symm (hne z hz)
    · simp only [List.mem_singleton] at hy hz
      rw [hy, hz]
  · rcases List.mem_append.1 hy with hy | hy <;> rcases List.mem_append.1 hz with hz | hz
    · rw [(hoth y hy).2] at hk
      rw [(hoth z hz).2]
      exact h.rows y hy z hz hyz k hk
    · simp only [List.mem_singleton] at hz
      subst hz
      rw [(hoth y hy).2] at hk
      have := hlt y hy k hk
      exact fun e => absurd (hfr k e) (by omega)
    · simp only [List.mem_singleton] at hy
      subst hy
      rw [(hoth z hz).2]
      have := hfr k hk
      exact fun e => absurd (hlt z hz k e) (by omega)
    · simp only [List.mem_singleton] at hy hz
      subst hy; subst hz
      exact absurd rfl hyz
theorem DiskG.later {w w' : World} {st fu : Int} {out : Bool} {d mb base : Nat} {M : List Ent} {C : Cont} (h : DiskG w st fu out d mb base M C) (hb : Below w.heap.size w w') : DiskG w' st fu out d mb base M C := by
  have hr : ∀ y ∈ M, rowOf w' y.2.1 = rowOf w y.2.1 := fun y hy => rowOf_same (hb.block _ (h.own y hy).2.at.lt)
  refine ⟨h.dm.later hb, h.low, fun y hy => ⟨(h.own y hy).1, (h.own y hy).2.later hb⟩, h.apart, fun y hy z hz hne k hk => ?_, h.zone.mono hb.size⟩
  rw [hr y hy] at hk
  rw [hr z hz]
  exact h.rows y hy z hz hne k hk
theorem fileOf_mem {nm : ByteArray} {f : Nat} {M : List Ent} (h : fileOf nm M = some f) : ∃ b, (nm, f, b) ∈ M := by
  unfold fileOf at h
  cases hq : fnd nm M 0 with
  | none => rw [hq] at h; cases h
  | some p =>
    rw [hq] at h
    injection h with h
    obtain ⟨j, b, _, hj⟩ := fnd_spec nm M 0 p.1 p.2 hq
    exact ⟨b, by rw [← h]; exact List.mem_of_getElem? hj⟩
theorem DiskG.file {w : World} {st fu : Int} {out : Bool} {d mb base f : Nat} {M : List Ent} {C : Cont} {nm : ByteArray} (h : DiskG w st fu out d mb base M C) (hf : fileOf nm M = some f) : base ≤ f ∧ FileOwn w f base (C f).1 (C f).2 := by
  obtain ⟨b, hb⟩ := fileOf_mem hf
  exact h.own _ hb
end Go.Proofs.Ytmpjjkfbojhfoaa
