/- disk: step, no fuse being laid; what a disk holds; Sync -/
import Derived.Test.YtgbpgmbnihfkkaaDSync
import Derived.Shelf.Abstract
namespace Go.Proofs.Ytgbpgmbnihfkkaa
open Go.RowKit
variable {nm : ByteArray}
/-- the fuse behind a step. -/
def dec (fu : Int) : Int := if 0 < fu then fu - 1 else fu
/-- the world behind a step's count. -/
def stepW (w : World) (d : Nat) (st fu : Int) : World := (if 0 < fu then w.setCell ⟨d, 2, none⟩ (.int .i64 (fu - 1)) else w).setCell ⟨d, 1, none⟩ (.int .i64 (wrap64 (st + 1)))
theorem stepW_heap {w : World} {d : Nat} {st fu : Int} {j : Nat} (h : j ≠ d) : (stepW w d st fu).heap[j]? = w.heap[j]? := by
  unfold stepW
  rw [Below.heap_setCell _ _ _ _ h]
  split
  · exact Below.heap_setCell _ _ _ _ h
  · rfl
theorem stepW_size (w : World) (d : Nat) (st fu : Int) : (stepW w d st fu).heap.size = w.heap.size := by
  unfold stepW
  split <;> simp
theorem stepW_os (w : World) (d : Nat) (st fu : Int) : (stepW w d st fu).os = w.os ∧ (stepW w d st fu).tape = w.tape ∧ (stepW w d st fu).output = w.output := by
  unfold stepW
  split <;> exact ⟨rfl, rfl, rfl⟩
theorem DiskRow.stepped {w : World} {d mb : Nat} {st fu : Int} {out : Bool} (h : DiskRow w d mb st fu out) : DiskRow (stepW w d st fu) d mb (wrap64 (st + 1)) (dec fu) out := by
  unfold stepW dec
  split
  · exact heap_setCell_same _ d 1 _ _ (.int .i64 (wrap64 (st + 1))) (heap_setCell_same w d 2 _ _ (.int .i64 (fu - 1)) h)
  · exact heap_setCell_same w d 1 _ _ (.int .i64 (wrap64 (st + 1))) h
set_option maxRecDepth 100000 in
theorem step_any (d mb : Nat) (st fu : Int) (g : Nat) (binds : Array Value) (w : World) (h : DiskRow w d mb st fu false) (hfx : fu ≤ 9223372036854775807) (hfu : fu ≠ 0) (eg : ∀ args w, (callFunc g args).run Try.prog w = .ok (.enter g args) w) (Q : World → Prop)
    (hdo : Calls Try.prog g binds (stepW w d st fu) fun e w' => e = .returned (.tuple #[]) ∧ Q w') :
    Calls Try.prog 26 #[.pointer (some ⟨d, 0, none⟩), .func (.func g) #[] binds] w fun e w' => e = .returned (.int .i64 0) ∧ Q w' := by
  obtain ⟨h0, h1, h2, h3⟩ := h.cells
  have hq : (fu == 0) = false := by simp; omega
  by_cases hq2 : 0 < fu
  · have hst : stepW w d st fu = (w.setCell ⟨d, 2, none⟩ (.int .i64 (fu - 1))).setCell ⟨d, 1, none⟩ (.int .i64 (wrap64 (st + 1))) := by unfold stepW; rw [if_pos hq2]
    rw [hst] at hdo
    have z2 : w.frozen? ⟨d, 2, none⟩ = false := frozen_of_row _ _ _ _ _ h
    have hr2 := heap_setCell_same w d 2 _ _ (.int .i64 (fu - 1)) h
    have HA := Lib.hid (AddInt_any d 1 st (w.setCell ⟨d, 2, none⟩ (.int .i64 (fu - 1))) (cell_of_row _ _ _ _ _ _ hr2) (frozen_of_row _ _ _ _ _ hr2))
    have HD := Lib.hid hdo
    have hw : IntKind.i64.wrap (fu - 1) = fu - 1 := IntWalk.i64_in _ (by omega)
    clear h h0 h1 h3 hdo hst hr2
    go_enter Try.func26, Try.ntmps26
    go_wp2_with fail
    refine HA.out.mono ?_
    rintro e w' ⟨⟨v, rfl⟩, rfl⟩
    go_wp2_with fail
    refine HD.out.mono ?_
    rintro e w' ⟨rfl, hq⟩
    go_wp2_with fail
    go_ret
    exact ⟨rfl, hq⟩
  · have hst : stepW w d st fu = w.setCell ⟨d, 1, none⟩ (.int .i64 (wrap64 (st + 1))) := by unfold stepW; rw [if_neg hq2]
    rw [hst] at hdo
    have z1 : w.frozen? ⟨d, 1, none⟩ = false := frozen_of_row _ _ _ _ _ h
    have HA := Lib.hid (AddInt_any d 1 st w h1 z1)
    have HD := Lib.hid hdo
    clear h h0 h1 h3 z1 hdo hst
    go_enter Try.func26, Try.ntmps26
    go_wp2_with fail
    refine HA.out.mono ?_
    rintro e w' ⟨⟨v, rfl⟩, rfl⟩
    go_wp2_with fail
    refine HD.out.mono ?_
    rintro e w' ⟨rfl, hq⟩
    go_wp2_with fail
    go_ret
    exact ⟨rfl, hq⟩
set_option maxRecDepth 100000 in
/-- the fuse has burnt: the disk goes out. -/
theorem step_out (d mb : Nat) (st : Int) (v : Value) (w : World) (h : DiskRow w d mb st 0 false) :
    Calls Try.prog 26 #[.pointer (some ⟨d, 0, none⟩), v] w fun e w' => e = .returned (.int .i64 10) ∧ w' = w.setCell ⟨d, 3, none⟩ (.bool true) := by
  obtain ⟨h0, h1, h2, h3⟩ := h.cells
  have z3 : w.frozen? ⟨d, 3, none⟩ = false := frozen_of_row _ _ _ _ _ h
  clear h h0 h1
  go_enter Try.func26, Try.ntmps26
  go_wp2_with fail
  go_ret
  exact ⟨rfl, rfl⟩
theorem afterZ_length : ∀ (D : List Deed) (b : List UInt8) (z : Int), (afterZ b D z).length ≤ b.length + (D.map Deed.units).sum
  | [], b, z => by simp [afterZ]
  | d :: D, b, z => by
    by_cases h : z ≤ 0
    · rw [afterZ_stop _ _ _ h]; omega
    · cases d with
      | more x =>
        rw [afterZ_more _ _ _ h]
        have := afterZ_length D (b ++ x.take (min z (x.length : Int)).toNat) (z - x.length)
        simp only [List.length_append, List.length_take, List.map_cons, List.sum_cons, Deed.units] at *
        omega
      | cut n =>
        rw [afterZ_cut _ _ _ h]
        have := afterZ_length D (b.take n) (z - 1)
        simp only [List.length_take, List.map_cons, List.sum_cons, Deed.units] at *
        omega
/-- a file whose bytes an own row holds, with nothing under way. -/
theorem FileAt.settled {w : World} {f base : Nat} {v : Value} {S : List UInt8} {D : List Deed} (h : FileRow w f v (.slice none 0 0)) (ho : OwnB w base v (allB S D)) (hs : S.length + (D.map Deed.units).sum ≤ 4294967296) : FileAt w f (allB S D) [] := by
  obtain ⟨ao, cap, rfl, hb, _⟩ := ho.bytes
  refine ⟨⟨_, _, _, _, _, _, h, hb, rfl, Nat.le_refl _, by unfold maxLen; omega, fun _ => ⟨rfl, rfl⟩, fun i hi => absurd hi (by omega)⟩, trivial, ?_⟩
  have := afterZ_length D S (unitsD D : Nat)
  simp only [List.map_nil, List.sum_nil]
  unfold allB
  omega
theorem enters_sync : ∀ args w, (callFunc 39 args).run Try.prog w = .ok (.enter 39 args) w := enters_of (hf := Try.func39) (hname := by kernel_rfl) (hb := rfl)
/-- the block in which a file's deeds lie. -/
def rowOf (w : World) (f : Nat) : Option Nat := match w.cell? ⟨f, 1, none⟩ with
  | some v => v.ownBlock
  | none => none
theorem rowOf_row {w : World} {f : Nat} {sv lv : Value} (h : FileRow w f sv lv) : rowOf w f = lv.ownBlock := by
  unfold rowOf
  rw [cell_of_row _ _ _ _ _ _ h]
  rfl
theorem rowOf_same {w w' : World} {f : Nat} (h : w'.heap[f]? = w.heap[f]?) : rowOf w' f = rowOf w f := by
  unfold rowOf
  rw [World.cell?_of_block (w := w) h]
/-- of the old blocks only d, mb, f, and that in which f's deeds lie, may have changed. -/
structure Moved (d mb f : Nat) (w w' : World) : Prop where
  os : w'.os = w.os
  tape : w'.tape = w.tape
  output : w'.output = w.output
  size : w.heap.size ≤ w'.heap.size
  block : ∀ j, j < w.heap.size → j ≠ d → j ≠ mb → j ≠ f → rowOf w f ≠ some j → w'.heap[j]? = w.heap[j]?
  row : ∀ k, rowOf w' f = some k → rowOf w f = some k ∨ w.heap.size ≤ k
theorem Moved.refl (d mb f : Nat) (w : World) : Moved d mb f w w := ⟨rfl, rfl, rfl, Nat.le_refl _, fun _ _ _ _ _ _ => rfl, fun _ h => .inl h⟩
theorem Moved.trans {d mb f : Nat} {a b c : World} (h : Moved d mb f a b) (k : Moved d mb f b c) : Moved d mb f a c := by
  refine ⟨k.os.trans h.os, k.tape.trans h.tape, k.output.trans h.output, Nat.le_trans h.size k.size, fun j hj h1 h2 h3 h4 => ?_, fun x hx => ?_⟩
  · have e := h.block j hj h1 h2 h3 h4
    refine (k.block j (Nat.lt_of_lt_of_le hj h.size) h1 h2 h3 (fun hr => ?_)).trans e
    rcases h.row j hr with q | q
    · exact h4 q
    · omega
  · rcases k.row x hx with q | q
    · exact h.row x q
    · exact .inr (Nat.le_trans h.size q)
theorem Moved.of_below {d mb f : Nat} {w w' : World} (h : Below w.heap.size w w') (hf : f < w.heap.size) : Moved d mb f w w' :=
  ⟨h.os, h.tape, h.output, h.size, fun j hj _ _ _ _ => h.block j hj, fun k hk => .inl (by rwa [rowOf_same (h.block f hf)] at hk)⟩
/-- a new file, with nothing under way. -/
theorem Moved.of_new {d mb f : Nat} {w w' : World} (h : Below w.heap.size w w') (hf : rowOf w' f = none) : Moved d mb f w w' :=
  ⟨h.os, h.tape, h.output, h.size, fun j hj _ _ _ _ => h.block j hj, fun k hk => by rw [hf] at hk; cases hk⟩
theorem Moved.setCell_d {d mb f : Nat} {a w : World} (h : Moved d mb f a w) (hne : f ≠ d) (off : Nat) (u : Value) : Moved d mb f a (w.setCell ⟨d, off, none⟩ u) := by
  refine ⟨h.os, h.tape, h.output, by simpa using h.size, fun j hj h1 h2 h3 h4 => ?_, fun k hk => ?_⟩
  · rw [Below.heap_setCell _ _ _ _ h1]
    exact h.block j hj h1 h2 h3 h4
  · rw [rowOf_same (Below.heap_setCell _ _ _ _ hne)] at hk
    exact h.row k hk
theorem Moved.settled {d mb f : Nat} {a w w' : World} (h : Moved d mb f a w) (hg : w.grownBy w' (some f)) (hr : rowOf w' f = none) : Moved d mb f a w' := by
  refine ⟨hg.os.trans h.os, hg.tape.trans h.tape, hg.output.trans h.output, Nat.le_trans h.size hg.size, fun j hj h1 h2 h3 h4 => ?_, fun k hk => by rw [hr] at hk; cases hk⟩
  rw [hg.block j (Nat.lt_of_lt_of_le hj h.size) (fun e => h3 (by injection e))]
  exact h.block j hj h1 h2 h3 h4
/-- what may be of a map's entries: laid one behind the other, each name once. -/
structure MapFit (M : List Ent) (c : Nat) : Prop where
  clock : ∀ x ∈ M, x.2.2 < c
  rise : M.Pairwise fun x y => x.2.2 < y.2.2
  once : (M.map (·.1)).Nodup
  fit : ∀ x ∈ M, nameP x.1.data.toList = true
  few : M.length ≤ 16
/-- a file may be put under a name. -/
def CanPut (nm : ByteArray) (f : Nat) (M : List Ent) : Prop := fileOf nm M = some f ∨ (fileOf nm M = none ∧ nameP nm.data.toList = true ∧ M.length < 16)
/-- a disk: its cells, its files' map. -/
def DiskM (w : World) (st fu : Int) (out : Bool) (d mb : Nat) (M : List Ent) : Prop :=
  fu ≤ 9223372036854775807 ∧ mb < d ∧ DiskRow w d mb st fu out ∧ ∃ c, MapFit M c ∧ w.heap[mb]? = some (.map (ents M) c)
/-- what a step does: the disk goes out, or it is done. -/
def Stepped (fu z : Int) (O P : Prop) : Prop := (fu = 0 ∧ z = 10 ∧ O) ∨ (fu ≠ 0 ∧ z = 0 ∧ P)
theorem FileAt.later {w w' : World} {f : Nat} {S : List UInt8} {D : List Deed} (h : FileAt w f S D) (hb : Below w.heap.size w w') : FileAt w' f S D := by
  obtain ⟨⟨ao, n, cap, al, m, capl, hr, hs, hd⟩, hf, hsm⟩ := h
  exact ⟨⟨ao, n, cap, al, m, capl, (hb.block f (block_lt_of_cell (cell_of_row _ _ _ _ _ _ hr : w.cell? ⟨f, 0, none⟩ = some (.slice ao n cap)))).trans hr, hs.later hb, hd.later hb⟩, hf, hsm⟩
theorem DiskRow.lt {w : World} {d mb : Nat} {st fu : Int} {out : Bool} (h : DiskRow w d mb st fu out) : d < w.heap.size := block_lt_of_cell h.cells.1
theorem heap_lt {w : World} {j : Nat} {o : Obj} (h : w.heap[j]? = some o) : j < w.heap.size := by
  rcases Nat.lt_or_ge j w.heap.size with h1 | h1
  · exact h1
  · rw [Array.getElem?_eq_none (by omega)] at h; cases h
theorem FileAt.lt {w : World} {f : Nat} {S : List UInt8} {D : List Deed} (h : FileAt w f S D) : f < w.heap.size := by
  obtain ⟨⟨ao, n, cap, al, m, capl, hr, hs, hd⟩, hf, hsm⟩ := h
  exact heap_lt hr
theorem DiskM.later {w w' : World} {st fu : Int} {out : Bool} {d mb : Nat} {M : List Ent} (h : DiskM w st fu out d mb M) (hb : Below w.heap.size w w') : DiskM w' st fu out d mb M := by
  obtain ⟨h1, h2, h3, c, h4, h5⟩ := h
  exact ⟨h1, h2, (hb.block _ h3.lt).trans h3, c, h4, (hb.block _ (heap_lt h5)).trans h5⟩
theorem FileAt.ne_disk {w : World} {d mb f : Nat} {st fu : Int} {out : Bool} {S : List UInt8} {D : List Deed} (h : FileAt w f S D) (hd : DiskRow w d mb st fu out) : f ≠ d := by
  obtain ⟨⟨ao, n, cap, al, m, capl, hr, hs, _⟩, hf, hsm⟩ := h
  rintro rfl
  unfold FileRow at hr
  unfold DiskRow at hd
  rw [hr] at hd
  cases hd
theorem FileAt.ne_map {w : World} {mb f : Nat} {S : List UInt8} {D : List Deed} {es : Array MapEntry} {c : Nat} (h : FileAt w f S D) (hd : w.heap[mb]? = some (.map es c)) : f ≠ mb := by
  obtain ⟨⟨ao, n, cap, al, m, capl, hr, hs, _⟩, hf, hsm⟩ := h
  rintro rfl
  unfold FileRow at hr
  rw [hr] at hd
  cases hd
/-- of a world of which only d's second cell has changed, a file is as it was. -/
theorem IsBytes.moved {w w' : World} {ao : Option Addr} {n cap : Nat} {l : List UInt8} (h : IsBytes w ao n cap l) (hm : ∀ j off v, w.cell? ⟨j, off, none⟩ = some (.int .u8 v) → w'.heap[j]? = w.heap[j]?) : IsBytes w' ao n cap l := by
  obtain ⟨h1, h2, h3, h4, h5⟩ := h
  refine ⟨h1, h2, h3, fun hl => ?_, h5⟩
  obtain ⟨b, off, e, hc⟩ := h4 hl
  refine ⟨b, off, e, fun i hi => ?_⟩
  have := hc i hi
  rw [World.cell?_of_block (w := w) (hm _ _ _ this)]
  exact this
theorem IsDeeds.moved {w w' : World} {ao : Option Addr} {n cap : Nat} {D : List Deed} (h : IsDeeds w ao n cap D) (hm : ∀ j off v, w.cell? ⟨j, off, none⟩ = some (.int .u8 v) → w'.heap[j]? = w.heap[j]?)
    (hm2 : ∀ j off t v, w.cell? ⟨j, off, none⟩ = some (.iface t v) → w'.heap[j]? = w.heap[j]?) : IsDeeds w' ao n cap D := by
  obtain ⟨h1, h2, h3, h4, h5⟩ := h
  refine ⟨h1, h2, h3, h4, fun i hi => ?_⟩
  obtain ⟨b, off, v, e, hc, hv⟩ := h5 i hi
  have hi : ∃ t u, v = .iface t u := by
    cases hx : D.getD i (.cut 0) with
    | more x => rw [hx] at hv; obtain ⟨a, n, c, rfl, _⟩ := hv; exact ⟨_, _, rfl⟩
    | cut x => rw [hx] at hv; exact ⟨_, _, hv⟩
  obtain ⟨t, u, rfl⟩ := hi
  refine ⟨b, off, .iface t u, e, ?_, ?_⟩
  · rw [World.cell?_of_block (w := w) (hm2 _ _ _ _ hc)]
    exact hc
  · cases hx : D.getD i (.cut 0) with
    | more x => rw [hx] at hv; obtain ⟨a, n, c, e, hb⟩ := hv; exact ⟨a, n, c, e, hb.moved hm⟩
    | cut x => rw [hx] at hv; exact hv
/-- a block none of whose cells is a byte or a deed. -/
def Plain (w : World) (b : Nat) : Prop := ∀ off v, w.cell? ⟨b, off, none⟩ = some v → plainV v = true
theorem plain_of_cells {w : World} {b : Nat} {c : Array Value} {t : TypeId} {f : Nat × Nat} (h : w.heap[b]? = some (.cells c t f)) (hc : ∀ v ∈ c.toList, plainV v = true) : Plain w b := by
  intro off v hv
  simp only [World.cell?, h] at hv
  exact hc v (by simpa using Array.mem_of_getElem? hv)
theorem DiskRow.plain {w : World} {d mb : Nat} {st fu : Int} {out : Bool} (h : DiskRow w d mb st fu out) : Plain w d := plain_of_cells h (by simp [plainV])
theorem FileRow.plain {w : World} {f : Nat} {ao al : Option Addr} {n cap m capl : Nat} (h : FileRow w f (.slice ao n cap) (.slice al m capl)) : Plain w f := plain_of_cells h (by simp [plainV])
theorem map_plain {w : World} {mb c : Nat} {es : Array MapEntry} (h : w.heap[mb]? = some (.map es c)) : Plain w mb := by
  intro off v hv
  simp [World.cell?, h] at hv
theorem FileAt.moved {w w' : World} {f : Nat} {S : List UInt8} {D : List Deed} (h : FileAt w f S D) (P : Nat → Prop) (hp : ∀ j, P j → Plain w j) (hf : ¬ P f) (hb : ∀ j, j < w.heap.size → ¬ P j → w'.heap[j]? = w.heap[j]?) : FileAt w' f S D := by
  have hl := h.lt
  obtain ⟨⟨ao, n, cap, al, m, capl, hr, hs, hd⟩, hf', hsm⟩ := h
  have h1 : ∀ j off v, w.cell? ⟨j, off, none⟩ = some (.int .u8 v) → w'.heap[j]? = w.heap[j]? := fun j off v hc => hb j (block_lt_of_cell hc) (fun hj => by have := hp j hj _ _ hc; simp [plainV] at this)
  have h2 : ∀ j off t v, w.cell? ⟨j, off, none⟩ = some (.iface t v) → w'.heap[j]? = w.heap[j]? := fun j off t v hc => hb j (block_lt_of_cell hc) (fun hj => by have := hp j hj _ _ hc; simp [plainV] at this)
  exact ⟨⟨ao, n, cap, al, m, capl, (hb f hl hf).trans hr, hs.moved h1, hd.moved h1 h2⟩, hf', hsm⟩
/-- a block in which no bytes of a disk lie. -/
class Zone where
  g : Nat → Prop
/-- a deed's bytes do not lie there. -/
def ZV [Zone] : Value → Prop
  | .iface _ (.slice (some ad) n _) => 0 < n → ¬ Zone.g ad.block
  | _ => True
/-- a slice's do not. -/
def ZS [Zone] (ao : Option Addr) (n : Nat) : Prop := 0 < n → ∀ ad, ao = some ad → ¬ Zone.g ad.block
/-- the block is there. -/
def ZW [Zone] (w : World) : Prop := ∀ k, Zone.g k → k < w.heap.size
set_option linter.unusedSectionVars false
variable [Zone]
theorem ZS.nil : ZS none 0 := fun h => absurd h (by omega)
theorem ZW.mono {w w' : World} (h : ZW w) (hs : w.heap.size ≤ w'.heap.size) : ZW w' := fun k hk => Nat.lt_of_lt_of_le (h k hk) hs
theorem ZS.of_own {w : World} {base n cap : Nat} {ao : Option Addr} {l : List UInt8} (h : OwnB w base (.slice ao n cap) l) (hz : ∀ k, Zone.g k → k < base) : ZS ao n := by
  intro _ ad e hk
  subst e
  have h1 := h.1.lt ad.block rfl
  have := hz _ hk
  omega
theorem ZV.of_own {w : World} {base : Nat} {v : Value} {t : TypeId} {l : List UInt8} (h : OwnB w base v l) (hz : ∀ k, Zone.g k → k < base) : ZV (.iface t v) := by
  obtain ⟨ao, cap, rfl, _⟩ := h.bytes
  cases ao with
  | none => trivial
  | some ad => exact fun hn => ZS.of_own h hz hn ad rfl
/-- bytes that do not lie there. -/
def IsBytesZ (w : World) (ao : Option Addr) (n cap : Nat) (l : List UInt8) : Prop := IsBytes w ao n cap l ∧ ZS ao n
theorem IsBytesZ.moved {w w' : World} {ao : Option Addr} {n cap : Nat} {l : List UInt8} (h : IsBytesZ w ao n cap l) (hm : ∀ j off v, w.cell? ⟨j, off, none⟩ = some (.int .u8 v) → w'.heap[j]? = w.heap[j]?) : IsBytesZ w' ao n cap l := ⟨h.1.moved hm, h.2⟩
/-- deeds that lie in a row of one's own. -/
def notU8 (u : Value) : Prop := ∀ n, u ≠ .int .u8 n
def OwnD (w : World) (base : Nat) (lv : Value) (D : List Deed) : Prop :=
  ∃ xs, w.ownsRow base 81 1 lv D.length xs ∧ AllCells w lv notU8 ∧ ∀ i, i < D.length → ∃ u, xs[i]? = some u ∧ IsDeed w u (D.getD i (.cut 0)) ∧ ZV u
theorem OwnD.nil (w : World) (base : Nat) : OwnD w base (.slice none 0 0) [] := ⟨[], World.ownsRow_nil _ _ _ _, fun g c t f hg => by simp [Value.ownBlock] at hg, fun i h => absurd h (by simp)⟩
theorem OwnD.deeds {w : World} {base : Nat} {lv : Value} {D : List Deed} (h : OwnD w base lv D) : ∃ al cap, lv = .slice al D.length cap ∧ IsDeeds w al D.length cap D := by
  obtain ⟨xs, ho, _, hi⟩ := h
  rcases ho.2 with ⟨rfl, h0⟩ | ⟨g, cap, cur, rfl, hb, hg, hn, hm, hs, ht⟩
  · exact ⟨none, 0, by rw [h0], rfl, by omega, by unfold maxLen; omega, fun _ => ⟨h0, rfl⟩, fun i hi => by omega⟩
  · refine ⟨_, cap, rfl, rfl, hn, hm, (fun e => by cases e), fun i hlt => ?_⟩
    obtain ⟨u, hu, hd, _⟩ := hi i hlt
    have hc := ho.cells (g := g) rfl i u hu
    have : (⟨g, 0, none⟩ : Addr).add i = ⟨g, 0 + i, none⟩ := by unfold Addr.add; split <;> simp_all
    rw [this] at hc
    exact ⟨g, 0, u, rfl, hc, hd⟩
theorem IsDeed.moved {w w' : World} {v : Value} {d : Deed} (h : IsDeed w v d) (hm : ∀ j off v, w.cell? ⟨j, off, none⟩ = some (.int .u8 v) → w'.heap[j]? = w.heap[j]?) : IsDeed w' v d := by
  cases d with
  | more b => obtain ⟨a, n, c, e, hs⟩ := h; exact ⟨a, n, c, e, hs.moved hm⟩
  | cut n => exact h
theorem OwnD.moved {w w' : World} {base : Nat} {lv : Value} {D : List Deed} (h : OwnD w base lv D) (hm : ∀ j off v, w.cell? ⟨j, off, none⟩ = some (.int .u8 v) → w'.heap[j]? = w.heap[j]?) (hg : ∀ g, lv.ownBlock = some g → w'.heap[g]? = w.heap[g]?) : OwnD w' base lv D := by
  obtain ⟨xs, ho, ha, hi⟩ := h
  refine ⟨xs, ownsRow_move ho hg, ha.move hg, fun i hlt => ?_⟩
  obtain ⟨u, hu, hd, hz⟩ := hi i hlt
  exact ⟨u, hu, hd.moved hm, hz⟩
/-- a file whose deeds lie in a row of its own. -/
def FileOwn (w : World) (f base : Nat) (S : List UInt8) (D : List Deed) : Prop :=
  (∃ ao n cap lv, FileRow w f (.slice ao n cap) lv ∧ IsBytesZ w ao n cap S ∧ OwnD w base lv D) ∧ fitsD S D ∧ S.length + (D.map Deed.units).sum ≤ 4294967296
theorem FileOwn.at {w : World} {f base : Nat} {S : List UInt8} {D : List Deed} (h : FileOwn w f base S D) : FileAt w f S D := by
  obtain ⟨⟨ao, n, cap, lv, hr, hs, hd⟩, hf, hsm⟩ := h
  obtain ⟨al, capl, rfl, hds⟩ := hd.deeds
  exact ⟨⟨ao, n, cap, al, _, capl, hr, hs.1, hds⟩, hf, hsm⟩
theorem FileOwn.moved {w w' : World} {f base : Nat} {S : List UInt8} {D : List Deed} (h : FileOwn w f base S D) (P : Nat → Prop) (hp : ∀ j, P j → Plain w j) (hf : ¬ P f) (hd : ∀ c t j, P j → w.heap[j]? ≠ some (.cells c 81 t)) (hb : ∀ j, j < w.heap.size → ¬ P j → w'.heap[j]? = w.heap[j]?) : FileOwn w' f base S D := by
  have hl := h.at.lt
  obtain ⟨⟨ao, n, cap, lv, hr, hs, hds⟩, hf', hsm⟩ := h
  have h1 : ∀ j off v, w.cell? ⟨j, off, none⟩ = some (.int .u8 v) → w'.heap[j]? = w.heap[j]? := fun j off v hc => hb j (block_lt_of_cell hc) (fun hj => by have := hp j hj _ _ hc; simp [plainV] at this)
  refine ⟨⟨ao, n, cap, lv, (hb f hl hf).trans hr, hs.moved h1, hds.moved h1 (fun g hg => ?_)⟩, hf', hsm⟩
  obtain ⟨xs, ho, _⟩ := hds
  rcases ho.2 with ⟨rfl, _⟩ | ⟨g', cap', cur, rfl, _, hg', _⟩
  · simp [Value.ownBlock] at hg
  · simp only [Value.ownBlock, Option.some.injEq] at hg
    subst hg
    exact hb _ (heap_lt hg') (fun hj => hd _ _ _ hj hg')
theorem FileOwn.settled {w : World} {f base base' : Nat} {v : Value} {S : List UInt8} {D : List Deed} (h : FileRow w f v (.slice none 0 0)) (ho : OwnB w base v (allB S D)) (hs : S.length + (D.map Deed.units).sum ≤ 4294967296) (hz : ∀ k, Zone.g k → k < base) : FileOwn w f base' (allB S D) [] := by
  obtain ⟨ao, cap, rfl, hb, _⟩ := ho.bytes
  refine ⟨⟨_, _, _, _, h, ⟨hb, ZS.of_own ho hz⟩, OwnD.nil _ _⟩, trivial, ?_⟩
  have := afterZ_length D S (unitsD D : Nat)
  simp only [List.map_nil, List.sum_nil]
  unfold allB
  omega
theorem FileOwn.later {w w' : World} {f base : Nat} {S : List UInt8} {D : List Deed} (h : FileOwn w f base S D) (hb : Below w.heap.size w w') : FileOwn w' f base S D :=
  h.moved (fun _ => False) (fun _ e => e.elim) (fun e => e) (fun _ _ _ e => e.elim) (fun j hj _ => hb.block j hj)
/-- a step counted: the file stays. -/
theorem FileAt.stepped {w : World} {d mb f : Nat} {st fu : Int} {out : Bool} {S : List UInt8} {D : List Deed} (h : FileAt w f S D) (hd : DiskRow w d mb st fu out) : FileAt (stepW w d st fu) f S D :=
  h.moved (· = d) (fun _ e => e ▸ hd.plain) (h.ne_disk hd) (fun _ _ hn => stepW_heap hn)
theorem FileOwn.stepped {w : World} {d mb f base : Nat} {st fu : Int} {out : Bool} {S : List UInt8} {D : List Deed} (h : FileOwn w f base S D) (hd : DiskRow w d mb st fu out) : FileOwn (stepW w d st fu) f base S D :=
  h.moved (· = d) (fun _ e => e ▸ hd.plain) (h.at.ne_disk hd) (fun c t j e hj => by subst e; unfold DiskRow at hd; rw [hd] at hj; cases hj) (fun _ _ hn => stepW_heap hn)
theorem Moved.stepW {d mb f : Nat} {a w : World} {st fu : Int} (h : Moved d mb f a w) (hne : f ≠ d) : Moved d mb f a (stepW w d st fu) := by
  obtain ⟨o1, o2, o3⟩ := stepW_os w d st fu
  refine ⟨o1.trans h.os, o2.trans h.tape, o3.trans h.output, by rw [stepW_size]; exact h.size, fun j hj h1 h2 h3 h4 => ?_, fun k hk => ?_⟩
  · rw [stepW_heap h1]
    exact h.block j hj h1 h2 h3 h4
  · rw [rowOf_same (stepW_heap hne)] at hk
    exact h.row k hk
/-- the disk goes out: its file stays. -/
theorem FileOwn.outed {w : World} {d mb f base : Nat} {st fu : Int} {out : Bool} {S : List UInt8} {D : List Deed} (h : FileOwn w f base S D) (hd : DiskRow w d mb st fu out) (off : Nat) (u : Value) : FileOwn (w.setCell ⟨d, off, none⟩ u) f base S D :=
  h.moved (· = d) (fun _ e => e ▸ hd.plain) (h.at.ne_disk hd) (fun c t j e hj => by subst e; unfold DiskRow at hd; rw [hd] at hj; cases hj) (fun _ _ hn => Below.heap_setCell _ _ _ _ hn)
theorem DiskM.outed {w : World} {st fu : Int} {d mb : Nat} {M : List Ent} (h : DiskM w st fu false d mb M) : DiskM (w.setCell ⟨d, 3, none⟩ (.bool true)) st fu true d mb M := by
  obtain ⟨h1, h2, h3, c, h4, h5⟩ := h
  exact ⟨h1, h2, heap_setCell_same w d 3 _ _ (.bool true) h3, c, h4, (Below.heap_setCell _ _ _ _ (by dsimp only; omega)).trans h5⟩
theorem DiskM.stepped {w : World} {st fu : Int} {d mb : Nat} {M : List Ent} (h : DiskM w st fu false d mb M) : DiskM (stepW w d st fu) (wrap64 (st + 1)) (dec fu) false d mb M := by
  obtain ⟨h1, h2, h3, c, h4, h5⟩ := h
  exact ⟨by unfold dec; split <;> omega, h2, h3.stepped, c, h4, (stepW_heap (by omega)).trans h5⟩
/-- a step, whatever the fuse. -/
theorem step_all (d mb : Nat) (st fu : Int) (g : Nat) (binds : Array Value) (M : List Ent) (w : World) (h : DiskM w st fu false d mb M) (eg : ∀ args w, (callFunc g args).run Try.prog w = .ok (.enter g args) w) (Q : World → Prop)
    (hdo : fu ≠ 0 → Calls Try.prog g binds (stepW w d st fu) fun e w' => e = .returned (.tuple #[]) ∧ Q w') :
    Calls Try.prog 26 #[.pointer (some ⟨d, 0, none⟩), .func (.func g) #[] binds] w fun e w' => ∃ z, e = .returned (.int .i64 z) ∧ Stepped fu z (w' = w.setCell ⟨d, 3, none⟩ (.bool true)) (Q w') := by
  by_cases hfu : fu = 0
  · subst hfu
    refine (step_out d mb st _ w h.2.2.1).mono ?_
    rintro e w' ⟨rfl, rfl⟩
    exact ⟨_, rfl, .inl ⟨rfl, rfl, rfl⟩⟩
  · refine (step_any d mb st fu g binds w h.2.2.1 h.1 hfu eg Q (hdo hfu)).mono ?_
    rintro e w' ⟨rfl, hq⟩
    exact ⟨_, rfl, .inr ⟨hfu, rfl, hq⟩⟩
theorem sync_step (base d mb f : Nat) (M : List Ent) (st fu : Int) (S : List UInt8) (D : List Deed) (w : World) (hd : DiskM w st fu false d mb M) (hf : FileOwn w f base S D) (hz : ZW w) :
    Calls Try.prog 26 #[.pointer (some ⟨d, 0, none⟩), .func (.func 39) #[] #[.pointer (some ⟨w.heap.size, 0, none⟩)]] (w.alloc (.cells #[.pointer (some ⟨f, 0, none⟩)] 55))
      fun e w' => ∃ z, e = .returned (.int .i64 z) ∧ Stepped fu z (DiskM w' st fu true d mb M ∧ FileOwn w' f base S D) (DiskM w' (wrap64 (st + 1)) (dec fu) false d mb M ∧ FileOwn w' f base (allB S D) []) ∧ Moved d mb f w w' := by
  have hB : Below w.heap.size w (w.alloc (.cells #[.pointer (some ⟨f, 0, none⟩)] 55)) := (Below.refl _ _).alloc (Nat.le_refl _) _
  generalize hW : w.alloc (.cells #[.pointer (some ⟨f, 0, none⟩)] 55) = W at hB ⊢
  have hv : W.heap[w.heap.size]? = some (.cells #[.pointer (some ⟨f, 0, none⟩)] 55 (0, 0)) := by rw [← hW]; exact heap_alloc_new _ _
  have hd1 := hd.later hB
  have hf1 := hf.later hB
  have hfl := hf.at.lt
  have hdl := hd.2.2.1.lt
  have hnd := hf.at.ne_disk hd.2.2.1
  have hmv : Moved d mb f w W := .of_below hB hfl
  refine (step_all d mb st fu _ _ M W hd1 enters_sync (fun w' => DiskM w' (wrap64 (st + 1)) (dec fu) false d mb M ∧ FileOwn w' f base (allB S D) [] ∧ Moved d mb f w w') (fun hfu => ?_)).mono ?_
  · have hf2 : FileOwn (stepW W d st fu) f base S D := hf1.stepped hd1.2.2.1
    have hd2 := hd1.stepped
    have hv2 : (stepW W d st fu).heap[w.heap.size]? = some (.cells #[.pointer (some ⟨f, 0, none⟩)] 55 (0, 0)) := by
      rw [stepW_heap (by omega)]; exact hv
    refine (SyncDo_any w.heap.size f S D _ (by omega) hv2 hf2.at).mono ?_
    rintro e w' ⟨rfl, ⟨v, hr, ho⟩, hg⟩
    obtain ⟨q1, q2, q3, c, q4, q5⟩ := hd2
    have hnm := hf2.at.ne_map q5
    refine ⟨rfl, ⟨q1, q2, (hg.block d q3.lt (by intro e; injection e with e; exact hnd e.symm)).trans q3, c, q4, (hg.block mb (heap_lt q5) (by intro e; injection e with e; exact hnm e.symm)).trans q5⟩, FileOwn.settled hr ho hf.at.small (fun k hk => by have := hz k hk; have := hB.size; rw [stepW_size]; omega), (hmv.stepW hnd).settled hg (rowOf_row hr)⟩
  · rintro e w' ⟨z, rfl, ⟨h1, h2, rfl⟩ | ⟨h1, h2, q1, q2, q3⟩⟩
    · exact ⟨z, rfl, .inl ⟨h1, h2, hd1.outed, hf1.outed hd1.2.2.1 _ _⟩, hmv.setCell_d hnd _ _⟩
    · exact ⟨z, rfl, .inr ⟨h1, h2, q1, q2⟩, q3⟩
set_option maxRecDepth 100000 in
theorem Sync_any (base d mb f : Nat) (M : List Ent) (st fu : Int) (S : List UInt8) (D : List Deed) (w : World) (h : DiskM w st fu false d mb M) (hfo : fileOf nm M = some f) (hf : FileOwn w f base S D) (hz : ZW w) :
    Calls Try.prog 18 #[.pointer (some ⟨d, 0, none⟩), .string nm] w fun e w' => ∃ z, e = .returned (.int .i64 z) ∧ Stepped fu z (DiskM w' st fu true d mb M ∧ FileOwn w' f base S D) (DiskM w' (wrap64 (st + 1)) (dec fu) false d mb M ∧ FileOwn w' f base (allB S D) []) ∧ Moved d mb f w w' := by
  have HO : Hid (∃ c, w.heap[mb]? = some (.map (ents M) c)) := Lib.hid ⟨_, h.2.2.2.choose_spec.2⟩
  obtain ⟨c, hm⟩ := HO.out
  have HO := Lib.hid (open_log d mb c f M st fu w h.2.2.1 hm hfo)
  have HST := Lib.hid (sync_step base d mb f M st fu S D w h hf hz)
  clear h hm hfo hf hz
  go_enter Try.func18, Try.ntmps18
  go_wp2_with fail
  refine HO.out.mono ?_
  rintro e w' ⟨rfl, rfl⟩
  go_wp2_with fail
  refine HST.out.mono ?_
  rintro e w' ⟨z, rfl, hl, hmv⟩
  have HL := Lib.hid (And.intro hl hmv)
  clear hl hmv
  go_wp2_with fail
  go_ret
  exact ⟨z, rfl, HL.out.1, HL.out.2⟩
end Go.Proofs.Ytgbpgmbnihfkkaa
