/- disk: all files of a disk -/
import Derived.Test.YtgbpgmbnihfkkaaNames
namespace Go.Proofs.Ytgbpgmbnihfkkaa
open Go.RowKit
set_option linter.unusedSectionVars false
variable [Zone]
/-- what files have: safe bytes, what is under way. -/
abbrev Cont := Nat → List UInt8 × List Deed
def setC (C : Cont) (f : Nat) (v : List UInt8 × List Deed) : Cont := fun g => if g = f then v else C g
theorem setC_same (C : Cont) (f : Nat) : setC C f (C f) = C := by
  funext g
  unfold setC
  split
  · rename_i h; rw [h]
  · rfl
theorem setC_at (C : Cont) (f : Nat) (v : List UInt8 × List Deed) : setC C f v f = v := if_pos rfl
theorem setC_ne (C : Cont) {f g : Nat} (v : List UInt8 × List Deed) (h : g ≠ f) : setC C f v g = C g := if_neg h
/-- a disk with all its files, each in memory of its own. -/
structure DiskG (w : World) (st fu : Int) (out : Bool) (d mb base : Nat) (M : List Ent) (C : Cont) : Prop where
  dm : DiskM w st fu out d mb M
  low : base ≤ mb
  own : ∀ x ∈ M, base ≤ x.2.1 ∧ FileOwn w x.2.1 base (C x.2.1).1 (C x.2.1).2
  apart : ∀ x ∈ M, ∀ y ∈ M, x.2.1 = y.2.1 → x.1 = y.1
  rows : ∀ x ∈ M, ∀ y ∈ M, x.2.1 ≠ y.2.1 → ∀ k, rowOf w x.2.1 = some k → rowOf w y.2.1 ≠ some k
  zone : ZW w
/-- what a call of a disk leaves as it was. -/
structure Kept (d mb base : Nat) (w w' : World) : Prop where
  below : Below base w w'
  keep : ∀ j, j < w.heap.size → j ≠ d → j ≠ mb → (∀ c t, w.heap[j]? ≠ some (.cells c 61 t)) → (∀ c t, w.heap[j]? ≠ some (.cells c 81 t)) → w'.heap[j]? = w.heap[j]?
  u8 : ∀ j off v, w.cell? ⟨j, off, none⟩ = some (.int .u8 v) → j ≠ d → j ≠ mb → w'.heap[j]? = w.heap[j]?
theorem Kept.trans {d mb base : Nat} {a b c : World} (h : Kept d mb base a b) (k : Kept d mb base b c) : Kept d mb base a c := by
  refine ⟨h.below.trans k.below, fun j hj h1 h2 h3 h4 => ?_, fun j off v hc h1 h2 => ?_⟩
  · have e := h.keep j hj h1 h2 h3 h4
    exact (k.keep j (Nat.lt_of_lt_of_le hj h.below.size) h1 h2 (by rw [e]; exact h3) (by rw [e]; exact h4)).trans e
  · have e := h.u8 j off v hc h1 h2
    exact (k.u8 j off v ((World.cell?_of_block (a := ⟨j, off, none⟩) e).trans hc) h1 h2).trans e
theorem Kept.refl (d mb base : Nat) (w : World) : Kept d mb base w w := ⟨Below.refl _ _, fun _ _ _ _ _ _ => rfl, fun _ _ _ _ _ _ => rfl⟩
theorem Kept.of_below {d mb base : Nat} {w w' : World} (h : Below w.heap.size w w') (hb : base ≤ w.heap.size) : Kept d mb base w w' := ⟨h.mono hb, fun j hj _ _ _ _ => h.block j hj, fun j _ _ hc _ _ => h.block j (block_lt_of_cell hc)⟩
theorem rowOf_new {w : World} {f : Nat} (h : w.heap.size ≤ f) : rowOf w f = none := by
  unfold rowOf World.cell?
  rw [Array.getElem?_eq_none h]
theorem FileOwn.rowOf {w : World} {f base k : Nat} {S : List UInt8} {D : List Deed} (h : FileOwn w f base S D) (hk : rowOf w f = some k) : base ≤ k ∧ ∃ c t, w.heap[k]? = some (.cells c 81 t) := by
  obtain ⟨⟨ao, n, cap, lv, hr, hs, hds⟩, _, _⟩ := h
  rw [rowOf_row hr] at hk
  exact hds.deed_block hk
theorem FileOwn.row {w : World} {f base : Nat} {S : List UInt8} {D : List Deed} (h : FileOwn w f base S D) : ∃ c t, w.heap[f]? = some (.cells c 61 t) := by
  obtain ⟨⟨ao, n, cap, lv, hr, hs, hds⟩, _, _⟩ := h
  exact ⟨_, _, hr⟩
theorem Kept.of_moved {d mb f base : Nat} {w w' : World} (h : Moved d mb f w w') (hmd : mb < d) (h1 : base ≤ mb) (hb : base ≤ w.heap.size) (hf : (base ≤ f ∧ ∃ S D, FileOwn w f base S D) ∨ w.heap.size ≤ f) : Kept d mb base w w' := by
  have hrow : ∀ k, rowOf w f = some k → base ≤ k ∧ ∃ c t, w.heap[k]? = some (.cells c 81 t) := by
    intro k hk
    rcases hf with ⟨_, S, D, hf⟩ | hf
    · exact hf.rowOf hk
    · rw [rowOf_new hf] at hk; cases hk
  refine ⟨⟨h.os, h.tape, h.output, h.size, fun j hj => h.block j (by omega) (by omega) (by omega) (by rcases hf with ⟨hf, _⟩ | hf <;> omega) (fun e => ?_)⟩, fun j hj h2 h3 h4 h5 => h.block j hj h2 h3 ?_ (fun e => ?_), fun j off v hc h2 h3 => h.block j (block_lt_of_cell hc) h2 h3 ?_ (fun e => ?_)⟩
  · have := (hrow j e).1
    omega
  · rintro rfl
    rcases hf with ⟨_, S, D, hf⟩ | hf
    · obtain ⟨c, t, hc⟩ := hf.row
      exact h4 c t hc
    · omega
  · obtain ⟨c, t, hc⟩ := (hrow j e).2
    exact h5 c t hc
  · rintro rfl
    rcases hf with ⟨_, S, D, hf⟩ | hf
    · obtain ⟨⟨ao, n, cap, lv, hr', _, hds'⟩, _, _⟩ := hf
      obtain ⟨al, capl, rfl, _⟩ := hds'.deeds
      have := hr'.plain _ _ hc; simp [plainV] at this
    · have hl9 : j < w.heap.size := block_lt_of_cell hc
      omega
  · rcases hf with ⟨_, S, D, hf⟩ | hf
    · obtain ⟨⟨ao, n, cap, lv, hr', _, hds'⟩, _, _⟩ := hf
      rw [rowOf_row hr'] at e
      exact hds'.ne_u8 hc e.symm
    · rw [rowOf_new hf] at e; cases e
theorem FileOwn.other {w w' : World} {d mb f g base base' c : Nat} {es : Array MapEntry} {st fu : Int} {out : Bool} {S : List UInt8} {D : List Deed} (hg : FileOwn w g base S D) (hd : DiskRow w d mb st fu out) (hm : w.heap[mb]? = some (.map es c))
    (hf : (∃ S D, FileOwn w f base' S D) ∨ w.heap.size ≤ f) (hne : g ≠ f) (hrow : ∀ k, Go.Proofs.Ytgbpgmbnihfkkaa.rowOf w g = some k → Go.Proofs.Ytgbpgmbnihfkkaa.rowOf w f ≠ some k) (hmv : Moved d mb f w w') : FileOwn w' g base S D ∧ Go.Proofs.Ytgbpgmbnihfkkaa.rowOf w' g = Go.Proofs.Ytgbpgmbnihfkkaa.rowOf w g := by
  have hgl := hg.at.lt
  have hgd := hg.at.ne_disk hd
  have hgm := hg.at.ne_map hm
  have hfrow : ∀ k, Go.Proofs.Ytgbpgmbnihfkkaa.rowOf w f = some k → ∃ c t, w.heap[k]? = some (.cells c 81 t) := by
    intro k hk
    rcases hf with ⟨S, D, hf⟩ | hf
    · exact (hf.rowOf hk).2
    · rw [rowOf_new hf] at hk; cases hk
  obtain ⟨⟨ao, n, cap, lv, hr, hs, hds⟩, q1, q2⟩ := hg
  have hgsame : w'.heap[g]? = w.heap[g]? := by
    refine hmv.block g hgl hgd hgm hne (fun e => ?_)
    obtain ⟨c', t', hc⟩ := hfrow g e
    unfold FileRow at hr
    rw [hr] at hc
    simp at hc
  have hu8 : ∀ j off v, w.cell? ⟨j, off, none⟩ = some (.int .u8 v) → w'.heap[j]? = w.heap[j]? := by
    intro j off v hc
    have hjl : j < w.heap.size := block_lt_of_cell hc
    refine hmv.block j hjl ?_ ?_ ?_ (fun e => ?_)
    · rintro rfl; have := hd.plain _ _ hc; simp [plainV] at this
    · rintro rfl; have := map_plain hm _ _ hc; simp [plainV] at this
    · rintro rfl
      rcases hf with ⟨S, D, hf⟩ | hf
      · obtain ⟨⟨ao, n, cap, lv, hr', _, hds'⟩, _, _⟩ := hf
        obtain ⟨al, capl, rfl, _⟩ := hds'.deeds
        have := hr'.plain _ _ hc; simp [plainV] at this
      · omega
    · rcases hf with ⟨S, D, hf⟩ | hf
      · obtain ⟨⟨ao, n, cap, lv, hr', _, hds'⟩, _, _⟩ := hf
        rw [rowOf_row hr'] at e
        exact hds'.ne_u8 hc e.symm
      · rw [rowOf_new hf] at e; cases e
  refine ⟨⟨⟨ao, n, cap, lv, hgsame.trans hr, hs.moved hu8, hds.moved hu8 (fun k hk => ?_)⟩, q1, q2⟩, rowOf_same hgsame⟩
  obtain ⟨c', t', hc⟩ := (hds.deed_block hk).2
  refine hmv.block k (heap_lt hc) ?_ ?_ ?_ (hrow k (by rw [rowOf_row hr]; exact hk))
  · rintro rfl; unfold DiskRow at hd; rw [hd] at hc; simp at hc
  · rintro rfl; rw [hm] at hc; cases hc
  · rintro rfl
    rcases hf with ⟨S, D, hf⟩ | hf
    · obtain ⟨c2, t2, hc2⟩ := hf.row
      rw [hc2] at hc
      simp at hc
    · exact absurd (heap_lt hc) (by omega)
theorem DiskG.moved {w w' : World} {st fu st' fu' : Int} {out out' : Bool} {d mb base : Nat} {M : List Ent} {C : Cont} {S' : List UInt8} {D' : List Deed} (h : DiskG w st fu out d mb base M C) {x : Ent} (hx : x ∈ M) (hb : base ≤ w.heap.size) (hmv : Moved d mb x.2.1 w w') (hdm : DiskM w' st' fu' out' d mb M) (hf : FileOwn w' x.2.1 base S' D') :
    DiskG w' st' fu' out' d mb base M (setC C x.2.1 (S', D')) ∧ Kept d mb base w w' := by
  obtain ⟨q1, q2, q3, c, q4, q5⟩ := h.dm
  have hfx := (h.own x hx).2
  have hoth : ∀ y ∈ M, y.2.1 ≠ x.2.1 → FileOwn w' y.2.1 base (C y.2.1).1 (C y.2.1).2 ∧ rowOf w' y.2.1 = rowOf w y.2.1 := fun y hy hne =>
    (h.own y hy).2.other q3 q5 (.inl ⟨_, _, hfx⟩) hne (h.rows y hy x hx hne) hmv
  have hlt : ∀ y ∈ M, ∀ k, rowOf w y.2.1 = some k → k < w.heap.size := fun y hy k hk => by
    obtain ⟨_, c, t, hc⟩ := (h.own y hy).2.rowOf hk
    exact heap_lt hc
  refine ⟨⟨hdm, h.low, fun y hy => ⟨(h.own y hy).1, ?_⟩, h.apart, fun y hy z hz hne k hk => ?_, h.zone.mono hmv.size⟩, .of_moved hmv q2 h.low hb (.inl ⟨(h.own x hx).1, _, _, hfx⟩)⟩
  · by_cases e : y.2.1 = x.2.1
    · rw [e, setC_at]
      exact hf
    · rw [setC_ne _ _ e]
      exact (hoth y hy e).1
  · by_cases e1 : y.2.1 = x.2.1
    · have e2 : z.2.1 ≠ x.2.1 := fun e => hne (e1.trans e.symm)
      rw [(hoth z hz e2).2]
      rw [e1] at hk
      rcases hmv.row k hk with r | r
      · exact h.rows x hx z hz (fun e => e2 e.symm) k r
      · exact fun e => absurd (hlt z hz k e) (by omega)
    · rw [(hoth y hy e1).2] at hk
      by_cases e2 : z.2.1 = x.2.1
      · rw [e2]
        intro e
        rcases hmv.row k e with r | r
        · exact h.rows y hy x hx e1 k hk r
        · have := hlt y hy k hk
          omega
      · rw [(hoth z hz e2).2]
        exact h.rows y hy z hz hne k hk
/-- nothing of the files changes. -/
theorem DiskG.stay {w w' : World} {st fu st' fu' : Int} {out out' : Bool} {d mb base f : Nat} {M : List Ent} {C : Cont} (h : DiskG w st fu out d mb base M C) (hb : base ≤ w.heap.size) (hmv : Moved d mb f w w') (hnew : w.heap.size ≤ f) (hdm : DiskM w' st' fu' out' d mb M) :
    DiskG w' st' fu' out' d mb base M C ∧ Kept d mb base w w' := by
  obtain ⟨q1, q2, q3, c, q4, q5⟩ := h.dm
  have hoth : ∀ y ∈ M, FileOwn w' y.2.1 base (C y.2.1).1 (C y.2.1).2 ∧ rowOf w' y.2.1 = rowOf w y.2.1 := fun y hy =>
    (h.own y hy).2.other (base' := base) q3 q5 (.inr hnew) (by have := (h.own y hy).2.at.lt; omega) (fun k _ => by rw [rowOf_new hnew]; exact fun e => by cases e) hmv
  refine ⟨⟨hdm, h.low, fun y hy => ⟨(h.own y hy).1, (hoth y hy).1⟩, h.apart, fun y hy z hz hne k hk => ?_, h.zone.mono hmv.size⟩, .of_moved hmv q2 h.low hb (.inr hnew)⟩
  rw [(hoth y hy).2] at hk
  rw [(hoth z hz).2]
  exact h.rows y hy z hz hne k hk
/-- a file more. -/
theorem DiskG.push {w w' : World} {st fu st' fu' : Int} {out out' : Bool} {d mb base f c : Nat} {nm : ByteArray} {M : List Ent} {C : Cont} {S' : List UInt8} {D' : List Deed} (h : DiskG w st fu out d mb base M C) (hb : base ≤ w.heap.size) (hmv : Moved d mb f w w') (hnew : w.heap.size ≤ f)
    (hdm : DiskM w' st' fu' out' d mb (M ++ [(nm, f, c)])) (hf : FileOwn w' f base S' D') :
    DiskG w' st' fu' out' d mb base (M ++ [(nm, f, c)]) (setC C f (S', D')) ∧ Kept d mb base w w' := by
  obtain ⟨q1, q2, q3, cc, q4, q5⟩ := h.dm
  have hne : ∀ y ∈ M, y.2.1 ≠ f := fun y hy => by have := (h.own y hy).2.at.lt; omega
  have hoth : ∀ y ∈ M, FileOwn w' y.2.1 base (C y.2.1).1 (C y.2.1).2 ∧ rowOf w' y.2.1 = rowOf w y.2.1 := fun y hy =>
    (h.own y hy).2.other (base' := base) q3 q5 (.inr hnew) (hne y hy) (fun k _ => by rw [rowOf_new hnew]; exact fun e => by cases e) hmv
  have hlt : ∀ y ∈ M, ∀ k, rowOf w y.2.1 = some k → k < w.heap.size := fun y hy k hk => by
    obtain ⟨_, c, t, hc⟩ := (h.own y hy).2.rowOf hk
    exact heap_lt hc
  have hfr : ∀ k, rowOf w' f = some k → w.heap.size ≤ k := fun k hk => by
    rcases hmv.row k hk with r | r
    · rw [rowOf_new hnew] at r; cases r
    · exact r
  refine ⟨⟨hdm, h.low, fun y hy => ?_, ?_, fun y hy z hz hyz k hk => ?_, h.zone.mono hmv.size⟩, .of_moved hmv q2 h.low hb (.inr hnew)⟩
  · rcases List.mem_append.1 hy with hy | hy
    · rw [setC_ne _ _ (hne y hy)]
      exact ⟨(h.own y hy).1, (hoth y hy).1⟩
    · simp only [List.mem_singleton] at hy
      subst hy
      refine ⟨by dsimp only; omega, ?_⟩
      dsimp only
      rw [setC_at]
      exact hf
  · intro y hy z hz e
    rcases List.mem_append.1 hy with hy | hy <;> rcases List.mem_append.1 hz with hz | hz
    · exact h.apart y hy z hz e
    · simp only [List.mem_singleton] at hz
      subst hz
      exact absurd e (hne y hy)
    · simp only [List.mem_singleton] at hy
      subst hy
      exact absurd e.symm (hne z hz)
    · simp only [List.mem_singleton] at hy hz
      rw [hy, hz]
  · rcases List.mem_append.1 hy with hy | hy <;> rcases List.mem_append.1 hz with hz | hz
    · rw [(hoth y hy).2] at hk
      rw [(hoth z hz).2]
      exact h.rows y hy z hz hyz k hk
    · simp only [List.mem_singleton] at hz
      subst hz
      rw [(hoth y hy).2] at hk
      have := hlt y hy k hk
      exact fun e => absurd (hfr k e) (by omega)
    · simp only [List.mem_singleton] at hy
      subst hy
      rw [(hoth z hz).2]
      have := hfr k hk
      exact fun e => absurd (hlt z hz k e) (by omega)
    · simp only [List.mem_singleton] at hy hz
      subst hy; subst hz
      exact absurd rfl hyz
theorem DiskG.later {w w' : World} {st fu : Int} {out : Bool} {d mb base : Nat} {M : List Ent} {C : Cont} (h : DiskG w st fu out d mb base M C) (hb : Below w.heap.size w w') : DiskG w' st fu out d mb base M C := by
  have hr : ∀ y ∈ M, rowOf w' y.2.1 = rowOf w y.2.1 := fun y hy => rowOf_same (hb.block _ (h.own y hy).2.at.lt)
  refine ⟨h.dm.later hb, h.low, fun y hy => ⟨(h.own y hy).1, (h.own y hy).2.later hb⟩, h.apart, fun y hy z hz hne k hk => ?_, h.zone.mono hb.size⟩
  rw [hr y hy] at hk
  rw [hr z hz]
  exact h.rows y hy z hz hne k hk
theorem fileOf_mem {nm : ByteArray} {f : Nat} {M : List Ent} (h : fileOf nm M = some f) : ∃ b, (nm, f, b) ∈ M := by
  unfold fileOf at h
  cases hq : fnd nm M 0 with
  | none => rw [hq] at h; cases h
  | some p =>
    rw [hq] at h
    injection h with h
    obtain ⟨j, b, _, hj⟩ := fnd_spec nm M 0 p.1 p.2 hq
    exact ⟨b, by rw [← h]; exact List.mem_of_getElem? hj⟩
theorem DiskG.file {w : World} {st fu : Int} {out : Bool} {d mb base f : Nat} {M : List Ent} {C : Cont} {nm : ByteArray} (h : DiskG w st fu out d mb base M C) (hf : fileOf nm M = some f) : base ≤ f ∧ FileOwn w f base (C f).1 (C f).2 := by
  obtain ⟨b, hb⟩ := fileOf_mem hf
  exact h.own _ hb
end Go.Proofs.Ytgbpgmbnihfkkaa

/- disk: Rename, Remove -/
namespace Go.Proofs.Ytgbpgmbnihfkkaa
open Go.RowKit
set_option linter.unusedSectionVars false
variable [Zone]
theorem erase_filter {nm : ByteArray} : ∀ (M : List Ent) (i k g : Nat), (M.map (·.1)).Nodup → fnd nm M i = some (k, g) → i ≤ k ∧ M.eraseIdx (k - i) = M.filter (fun x => decide (x.1 ≠ nm))
  | [], _, _, _, _, h => by cases h
  | x :: M, i, k, g, hn, h => by
    rw [List.map_cons, List.nodup_cons] at hn
    unfold fnd at h
    rw [bytes_beq] at h
    by_cases hx : nm = x.1
    · rw [if_pos (by simp [hx])] at h
      injection h with h
      injection h with h1 h2
      subst h1
      refine ⟨Nat.le_refl _, ?_⟩
      rw [Nat.sub_self, List.eraseIdx_cons_zero, List.filter_cons_of_neg (by simp [hx])]
      refine (List.filter_eq_self.2 fun y hy => ?_).symm
      refine decide_eq_true fun e => hn.1 ?_
      rw [← hx, ← e]
      exact List.mem_map.2 ⟨y, hy, rfl⟩
    · rw [if_neg (by simp [hx])] at h
      obtain ⟨h1, h2⟩ := erase_filter M (i + 1) k g hn.2 h
      refine ⟨by omega, ?_⟩
      rw [List.filter_cons_of_pos (by simp; exact fun e => hx e.symm), show k - i = (k - (i + 1)) + 1 by omega, List.eraseIdx_cons_succ, h2]
theorem modify_map {nm : ByteArray} (f : Nat) : ∀ (M : List Ent) (i k g : Nat), (M.map (·.1)).Nodup → fnd nm M i = some (k, g) → i ≤ k ∧ M.modify (k - i) (fun x => (x.1, f, x.2.2)) = M.map (fun x => if x.1 = nm then (x.1, f, x.2.2) else x)
  | [], _, _, _, _, h => by cases h
  | x :: M, i, k, g, hn, h => by
    rw [List.map_cons, List.nodup_cons] at hn
    unfold fnd at h
    rw [bytes_beq] at h
    by_cases hx : nm = x.1
    · rw [if_pos (by simp [hx])] at h
      injection h with h
      injection h with h1 h2
      subst h1
      refine ⟨Nat.le_refl _, ?_⟩
      rw [Nat.sub_self, List.modify_zero_cons, List.map_cons, if_pos hx.symm]
      congr 1
      refine (List.map_congr_left (g := id) fun y hy => ?_).trans (List.map_id _) |>.symm
      refine if_neg fun e => hn.1 ?_
      rw [← hx, ← e]
      exact List.mem_map.2 ⟨y, hy, rfl⟩
    · rw [if_neg (by simp [hx])] at h
      obtain ⟨h1, h2⟩ := modify_map f M (i + 1) k g hn.2 h
      refine ⟨by omega, ?_⟩
      rw [List.map_cons, if_neg (fun e => hx e.symm), show k - i = (k - (i + 1)) + 1 by omega, List.modify_succ_cons, h2]
theorem fnd_some {nm : ByteArray} {f : Nat} {M : List Ent} (h : fileOf nm M = some f) : ∃ k, fnd nm M 0 = some (k, f) := by
  unfold fileOf at h
  cases hq : fnd nm M 0 with
  | none => rw [hq] at h; cases h
  | some p => rw [hq] at h; injection h with h; exact ⟨p.1, by rw [← h]⟩
theorem fnd_no {nm : ByteArray} {M : List Ent} (h : fileOf nm M = none) : fnd nm M 0 = none := by
  unfold fileOf at h
  cases hq : fnd nm M 0 with
  | none => rfl
  | some p => rw [hq] at h; cases h
theorem fileOf_none {nm : ByteArray} {M : List Ent} (h : fileOf nm M = none) : ∀ x ∈ M, x.1 ≠ nm := fun x hx e => fnd_none (fnd_no h) (by rw [← e]; exact List.mem_map.2 ⟨x, hx, rfl⟩)
theorem delE_filter {nm : ByteArray} {M : List Ent} (hn : (M.map (·.1)).Nodup) : delE nm M = M.filter (fun x => decide (x.1 ≠ nm)) := by
  cases hf : fileOf nm M with
  | none =>
    unfold delE
    rw [fnd_no hf]
    exact (List.filter_eq_self.2 fun y hy => decide_eq_true (fileOf_none hf y hy)).symm
  | some g =>
    obtain ⟨k, hk⟩ := fnd_some hf
    unfold delE
    rw [hk]
    exact (erase_filter M 0 k g hn hk).2
theorem putE_old {nm : ByteArray} {f g c : Nat} {M : List Ent} (hn : (M.map (·.1)).Nodup) (hf : fileOf nm M = some g) : putE nm f c M = M.map (fun x => if x.1 = nm then (x.1, f, x.2.2) else x) := by
  obtain ⟨k, hk⟩ := fnd_some hf
  unfold putE
  rw [hk]
  exact (modify_map f M 0 k g hn hk).2
theorem putE_new {nm : ByteArray} {f c : Nat} {M : List Ent} (hf : fileOf nm M = none) : putE nm f c M = M ++ [(nm, f, c)] := by
  unfold putE
  rw [fnd_no hf]
theorem MapFit.sub {M M' : List Ent} {c : Nat} (h : MapFit M c) (hs : M'.Sublist M) : MapFit M' c :=
  ⟨fun x hx => h.clock x (hs.subset hx), h.rise.sublist hs, h.once.sublist (hs.map _), fun x hx => h.fit x (hs.subset hx), Nat.le_trans hs.length_le h.few⟩
theorem MapFit.del {nm : ByteArray} {M : List Ent} {c : Nat} (h : MapFit M c) : MapFit (delE nm M) c := by
  rw [delE_filter h.once]
  exact h.sub List.filter_sublist
theorem MapFit.put {nm : ByteArray} {f c : Nat} {M : List Ent} (h : MapFit M c) (hn : nameP nm.data.toList = true) (hml : M.length < 16) : MapFit (putE nm f c M) (clockE nm c M) := by
  cases hf : fileOf nm M with
  | none =>
    rw [putE_new hf]
    have : clockE nm c M = c + 1 := by
      unfold clockE
      rw [fnd_no hf]
    rw [this]
    exact h.push hf hn hml
  | some g =>
    have : clockE nm c M = c := by
      obtain ⟨k, hk⟩ := fnd_some hf
      unfold clockE
      rw [hk]
    rw [putE_old h.once hf, this]
    have e1 : ∀ x : Ent, (if x.1 = nm then ((x.1, f, x.2.2) : Ent) else x).1 = x.1 := fun x => by split <;> rfl
    have e2 : ∀ x : Ent, (if x.1 = nm then ((x.1, f, x.2.2) : Ent) else x).2.2 = x.2.2 := fun x => by split <;> rfl
    refine ⟨fun x hx => ?_, ?_, ?_, fun x hx => ?_, by rw [List.length_map]; exact h.few⟩
    · obtain ⟨y, hy, rfl⟩ := List.mem_map.1 hx
      rw [e2]
      exact h.clock y hy
    · rw [List.pairwise_map]
      exact h.rise.imp (fun {a b} hab => by rw [e2, e2]; exact hab)
    · rw [List.map_map]
      rw [show ((fun x : Ent => x.1) ∘ fun x : Ent => if x.1 = nm then ((x.1, f, x.2.2) : Ent) else x) = fun x => x.1 from funext fun x => e1 x]
      exact h.once
    · obtain ⟨y, hy, rfl⟩ := List.mem_map.1 hx
      rw [e1]
      exact h.fit y hy
theorem delE_mem {nm : ByteArray} {M : List Ent} (hn : (M.map (·.1)).Nodup) {x : Ent} : x ∈ delE nm M ↔ x ∈ M ∧ x.1 ≠ nm := by
  rw [delE_filter hn, List.mem_filter, decide_eq_true_eq]
theorem putE_mem {nm : ByteArray} {f c : Nat} {M : List Ent} (hn : (M.map (·.1)).Nodup) {x : Ent} (hx : x ∈ putE nm f c M) : (x.1 = nm ∧ x.2.1 = f) ∨ (x ∈ M ∧ x.1 ≠ nm) := by
  cases hf : fileOf nm M with
  | none =>
    rw [putE_new hf] at hx
    rcases List.mem_append.1 hx with hx | hx
    · exact .inr ⟨hx, fileOf_none hf x hx⟩
    · simp only [List.mem_singleton] at hx
      subst hx
      exact .inl ⟨rfl, rfl⟩
  | some g =>
    rw [putE_old hn hf] at hx
    obtain ⟨y, hy, rfl⟩ := List.mem_map.1 hx
    by_cases e : y.1 = nm
    · rw [if_pos e]
      exact .inl ⟨e, rfl⟩
    · rw [if_neg e]
      exact .inr ⟨hy, e⟩
theorem delE_short {nm : ByteArray} {f : Nat} {M : List Ent} (hf : fileOf nm M = some f) : (delE nm M).length < M.length := by
  obtain ⟨k, hk⟩ := fnd_some hf
  obtain ⟨j, b, e, hj⟩ := fnd_spec nm M 0 k f hk
  have hlt : k < M.length := by
    have := (List.getElem?_eq_some_iff.1 hj).1
    omega
  unfold delE
  rw [hk]
  dsimp only
  rw [List.length_eraseIdx_of_lt hlt]
  omega
/-- only the map's block changes. -/
theorem DiskG.remap {w w' : World} {st fu st' fu' : Int} {out out' : Bool} {d mb base : Nat} {M M' : List Ent} {C : Cont} (h : DiskG w st fu out d mb base M C) (hb : base ≤ w.heap.size) (hos : w'.os = w.os ∧ w'.tape = w.tape ∧ w'.output = w.output) (hsz : w.heap.size ≤ w'.heap.size) (hbl : ∀ j, j < w.heap.size → j ≠ d → j ≠ mb → w'.heap[j]? = w.heap[j]?)
    (hdm : DiskM w' st' fu' out' d mb M') (hsub : ∀ x ∈ M', ∃ y ∈ M, y.2.1 = x.2.1) (hap : ∀ x ∈ M', ∀ y ∈ M', x.2.1 = y.2.1 → x.1 = y.1) :
    DiskG w' st' fu' out' d mb base M' C ∧ Kept d mb base w w' := by
  obtain ⟨q1, q2, q3, c, q4, q5⟩ := h.dm
  have hoth : ∀ y ∈ M, FileOwn w' y.2.1 base (C y.2.1).1 (C y.2.1).2 ∧ rowOf w' y.2.1 = rowOf w y.2.1 := fun y hy => by
    have hf := (h.own y hy).2
    refine ⟨hf.moved (fun j => j = d ∨ j = mb) (fun j e => ?_) (fun e => ?_) (fun c t j e => ?_) (fun j hj hn => hbl j hj (fun e => hn (.inl e)) (fun e => hn (.inr e))), rowOf_same (hbl _ hf.at.lt (hf.at.ne_disk q3) (hf.at.ne_map q5))⟩
    · rcases e with rfl | rfl
      · exact q3.plain
      · exact map_plain q5
    · rcases e with e | e
      · exact hf.at.ne_disk q3 e
      · exact hf.at.ne_map q5 e
    · rcases e with rfl | rfl
      · unfold DiskRow at q3; rw [q3]; simp
      · rw [q5]; intro e; cases e
  have hlow := h.low
  refine ⟨⟨hdm, h.low, fun x hx => ?_, hap, fun x hx y hy hne k hk => ?_, h.zone.mono hsz⟩, ⟨⟨hos.1, hos.2.1, hos.2.2, hsz, fun j hj => hbl j (by omega) (by omega) (by omega)⟩, fun j hj h1 h2 _ _ => hbl j hj h1 h2, fun j _ _ hc h1 h2 => hbl j (block_lt_of_cell hc) h1 h2⟩⟩
  · obtain ⟨y, hy, e⟩ := hsub x hx
    rw [← e]
    exact ⟨(h.own y hy).1, (hoth y hy).1⟩
  · obtain ⟨x', hx', e1⟩ := hsub x hx
    obtain ⟨y', hy', e2⟩ := hsub y hy
    rw [← e1] at hne hk
    rw [← e2] at hne ⊢
    rw [(hoth x' hx').2] at hk
    rw [(hoth y' hy').2]
    exact h.rows x' hx' y' hy' hne k hk
end Go.Proofs.Ytgbpgmbnihfkkaa

/- disk: what Rename and Remove do behind the step -/
namespace Go.Proofs.Ytgbpgmbnihfkkaa
open Go.RowKit
set_option linter.unusedSectionVars false
variable [Zone]
theorem setObjAt_self (w : World) (mb : Nat) (o : Obj) (h : mb < w.heap.size) : (setObjAt w mb o).heap[mb]? = some o := by
  unfold setObjAt
  simp [h]
theorem setObjAt_size (w : World) (mb : Nat) (o : Obj) : (setObjAt w mb o).heap.size = w.heap.size := by
  unfold setObjAt
  simp
end Go.Proofs.Ytgbpgmbnihfkkaa
