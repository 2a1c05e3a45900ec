/- frame.word, frame.Put, walked -/
import Derived.Test.YtjkkfjmloleedaaGreatOwn
import Derived.RangeFuncNested
namespace Go.Proofs.YtjkkfjmloleedaaGreat
open Go.RowKit
theorem Tryz.infoByte : (Tryz.prog.info? 5).map (fun i => (i.zero, i.size, i.bytes)) = some (some (.int .u8 0), 1, 1) := by kernel_rfl
theorem u8s_length (l : List UInt8) : (u8s l).length = l.length := by simp [u8s]
theorem u8s_append (l m : List UInt8) : u8s (l ++ m) = u8s l ++ u8s m := by simp [u8s]
theorem u8s_get (l : List UInt8) (i : Nat) (h : i < l.length) : (u8s l)[i]? = some (.int .u8 ((l.getD i 0).toNat : Int)) := by
  simp [u8s, u8, List.getD_eq_getElem?_getD, h]
theorem u8s_one (l : List UInt8) : ∀ u ∈ u8s l, u.oneCell' = true := by
  intro u hu; simp only [u8s, List.mem_map] at hu; obtain ⟨c, _, rfl⟩ := hu; rfl
def isU8 (u : Value) : Prop := ∃ c : UInt8, u = .int .u8 (c.toNat : Int)
theorem isU8_u8s (l : List UInt8) : ∀ u, u ∈ u8s l → isU8 u := by
  intro u hu; simp only [u8s, List.mem_map] at hu; obtain ⟨c, _, rfl⟩ := hu; exact ⟨c, rfl⟩
/-- the slice v owns a row of the bytes l; whatever lies behind them in its block are bytes, too. -/
def OwnB (w : World) (base : Nat) (v : Value) (l : List UInt8) : Prop := w.ownsRow base 5 1 v l.length (u8s l) ∧ AllCells w v isU8
theorem OwnB.move {w w' : World} {base : Nat} {v : Value} {l : List UInt8} (h : OwnB w base v l) (hb : ∀ g, v.ownBlock = some g → w'.heap[g]? = w.heap[g]?) : OwnB w' base v l := ⟨ownsRow_move h.1 hb, h.2.move hb⟩
theorem OwnB.later {w w' : World} {base : Nat} {v : Value} {l : List UInt8} (h : OwnB w base v l) (hb : Below w.heap.size w w') : OwnB w' base v l := h.move fun g hg => hb.block g (h.1.lt g hg).2
theorem OwnB.kept {w w' : World} {base : Nat} {v : Value} {l : List UInt8} {row : Option Nat} (h : OwnB w base v l) (hg : w.grownBy w' row) (hne : ∀ g, v.ownBlock = some g → some g ≠ row) : OwnB w' base v l :=
  h.move fun g hv => hg.block g (h.1.lt g hv).2 (hne g hv)
theorem OwnB.base {w : World} {base base' : Nat} {v : Value} {l : List UInt8} (h : OwnB w base v l) (hb : base' ≤ base) : OwnB w base' v l := ⟨ownsRow_base h.1 hb, h.2⟩
theorem OwnB.nil (w : World) (base : Nat) : OwnB w base (.slice none 0 0) [] := ⟨World.ownsRow_nil _ _ _ _, fun g c t f hg => by simp [Value.ownBlock] at hg⟩
/-- an owned row of bytes reads as these bytes. -/
theorem OwnB.bytes {w : World} {base : Nat} {v : Value} {l : List UInt8} (h : OwnB w base v l) :
    ∃ ao cap, v = .slice ao l.length cap ∧ IsBytes w ao l.length cap l ∧ (∀ x, ao = some x → base ≤ x.block) := by
  rcases h.1.2 with ⟨rfl, h0⟩ | ⟨g, cap, cur, rfl, hb, hg, hn, hm, hs, ht⟩
  · have : l = [] := List.eq_nil_of_length_eq_zero h0
    subst this
    exact ⟨none, 0, rfl, IsBytes.nil w, fun x e => by cases e⟩
  · refine ⟨_, cap, rfl, ⟨rfl, hn, hm, fun _ => ⟨g, 0, rfl, fun i hi => ?_⟩, fun h => by cases h⟩, fun x e => by cases e; exact hb⟩
    have hc := h.1.cells (g := g) rfl i _ (u8s_get l i hi)
    have : (⟨g, 0, none⟩ : Addr).add i = ⟨g, 0 + i, none⟩ := by unfold Addr.add; split <;> simp_all
    rw [this] at hc; exact hc
theorem IsBytes.cells {w : World} {b off : Nat} {spot : Option Nat} {n cap : Nat} {l : List UInt8} (h : IsBytes w (some ⟨b, off, spot⟩) n cap l) :
    ∀ j u, (u8s l)[j]? = some u → w.cell? ((⟨b, off, spot⟩ : Addr).add j) = some u := by
  intro j u hu
  have hj : j < l.length := by
    have := (List.getElem?_eq_some_iff.1 hu).1; rwa [u8s_length] at this
  rw [u8s_get l j hj] at hu
  cases hu
  obtain ⟨b', off', e, hc⟩ := h.2.2.2.1 (by intro h0; rw [h0] at hj; simp at hj)
  cases e
  have : (⟨b, off, none⟩ : Addr).add j = ⟨b, off + j, none⟩ := by unfold Addr.add; split <;> simp_all
  rw [this]; exact hc j hj
/-- the four bytes that 'word' lays, as the walk reckons them. -/
theorem le4_vals (x : Nat) (hx : x < 4294967296) : u8s (Fr.le4 x) = [.int .u8 ((x : Int) % 256), .int .u8 ((x : Int) / 256 % 256), .int .u8 ((x : Int) / 65536 % 256), .int .u8 ((x : Int) / 16777216)] := by
  simp only [u8s, Fr.le4, List.map_cons, List.map_nil, u8, UInt8.toNat_ofNat']
  refine List.cons_eq_cons.2 ⟨?_, List.cons_eq_cons.2 ⟨?_, List.cons_eq_cons.2 ⟨?_, List.cons_eq_cons.2 ⟨?_, rfl⟩⟩⟩⟩ <;> (congr 1; try omega)
/-- 'append(own, src...)', whatever bytes src is, as an equation on its run. -/
theorem run_append_bytes {w : World} (ty base : Nat) (v : Value) (l : List UInt8) (hown : OwnB w base v l)
    (ao : Option Addr) (m c : Nat) (l2 : List UInt8) (hsrc : IsBytes w ao m c l2) (hnm : l.length + m ≤ 140737488355328) (hbase : base ≤ w.heap.size) :
    ∃ v' w', (Builtin.append_ #[36, 36] ty #[v, .slice ao m c]).run Tryz.prog w = .ok v' w' ∧ OwnB w' base v' (l ++ l2) ∧ w.grownBy w' v.ownBlock ∧ (∀ g, v'.ownBlock = some g → v.ownBlock = some g ∨ g = w.heap.size) := by
  obtain ⟨i0, hi, hz0, hz1, hz2⟩ := info_parts Tryz.infoByte
  have hl := hsrc.1
  cases ao with
  | none =>
    obtain ⟨rfl, rfl⟩ := hsrc.2.2.2.2 rfl
    obtain rfl : l2 = [] := List.eq_nil_of_length_eq_zero hl
    exact ⟨v, w, run_append_owned_none (P := Tryz.prog) (w := w) base _ ty _ i0 1 Tryz.underlying36 hi v _ _ hown.1, by rw [List.append_nil]; exact hown, ⟨rfl, rfl, rfl, Nat.le_refl _, fun _ _ _ => rfl⟩, fun g hg => .inl hg⟩
  | some ad =>
    obtain ⟨b, off, spot⟩ := ad
    obtain ⟨v', w', hr, h2, h3, h4, _, h6⟩ := run_append_all (P := Tryz.prog) w base 36 ty _ i0 (.int .u8 0) 1 1 Tryz.underlying36 hi hz0 hz1 hz2 rfl (by decide) v _ _ hown.1 _ m c (u8s l2) (by rw [u8s_length]; omega) hsrc.cells (u8s_one _) (by unfold maxLen; omega) (by omega) hbase
      isU8 (fun u hu => ⟨0, by simpa [Value.cells] using hu⟩) (isU8_u8s l2) hown.2
    refine ⟨v', w', hr, ⟨?_, h4⟩, h3, h6⟩
    rw [u8s_append, List.length_append, hl]; exact h2
theorem wpList_append_bytes {w : World} {ops : Array Oper} {rest : List Oper} {o : Oper} {a : Act} {Q : Exit → Act → World → Prop} (hgd : o.guard = none) (s x : Operand)
    (ho : o.op = .call { callee := .builtin .append, args := #[s, x], argTypes := #[36, 36] })
    (base : Nat) (v : Value) (l : List UInt8) (hs : a.eval s = v) (hown : OwnB w base v l)
    (ao : Option Addr) (m c : Nat) (l2 : List UInt8) (hx : a.eval x = .slice ao m c) (hsrc : IsBytes w ao m c l2) (hnm : l.length + m ≤ 140737488355328) (hbase : base ≤ w.heap.size)
    (h : ∀ v' w', OwnB w' base v' (l ++ l2) → w.grownBy w' v.ownBlock → wpList Tryz.prog ops Q rest (a.put o.dst v') w') : wpList Tryz.prog ops Q (o :: rest) a w := by
  obtain ⟨v', w', hr, h2, h3, _⟩ := run_append_bytes o.type base v l hown ao m c l2 hsrc hnm hbase
  refine wpList_plain hgd fun K hK => ?_
  unfold Oper.wp execOp
  simp only [ho, resolve, invoke, builtin, Sem.run_bind, Sem.run_pure, Result.andThen_ok, List.map_toArray, List.map_cons, List.map_nil, hs, hx, hr]
  exact hK _ _ (h v' w' h2 h3)
set_option maxRecDepth 100000 in
set_option maxHeartbeats 400000 in
theorem word_any (base x : Nat) (v : Value) (l : List UInt8) (w : World) (hx : x < 4294967296) (hown : OwnB w base v l) (hbase : base ≤ w.heap.size) (hn : l.length ≤ 1000000) :
    Calls Tryz.prog 80 #[v, .int .u32 (x : Int)] w fun e w' => ∃ v', e = .returned v' ∧ OwnB w' base v' (l ++ Fr.le4 x) ∧ Below base w w' := by
  go_enter Tryz.func80, Tryz.ntmps80
  have hnews : ∀ (W : World) (a b c d : Value), IsBytes W none 0 0 [] → [a, b, c, d] = u8s (Fr.le4 x) → IsBytes (W.alloc (.cells #[a, b, c, d] 5)) (some ⟨W.heap.size, 0, none⟩) 4 4 (Fr.le4 x) := by
    intro W a b c d _ he
    refine ⟨rfl, Nat.le_refl _, by unfold maxLen; omega, fun _ => ⟨_, _, rfl, fun i hi => ?_⟩, fun h => by cases h⟩
    rw [cell_of_row _ _ _ _ _ _ (heap_alloc_new W _), ← u8s_get _ i hi, ← he]; simp
  go_wp2_with (at_builtin; refine wpList_append_bytes rfl _ _ rfl base v l rfl (hown.later ((Below.refl _ _).alloc (Nat.le_refl _) _)) (some ⟨w.heap.size, 0, none⟩) 4 4 (Fr.le4 x) rfl ?c1 (by omega) ?c2 ?_)
  case c1 => exact hnews _ _ _ _ _ (IsBytes.nil _) (le4_vals x hx).symm
  case c2 => simp; omega
  intro v' w1 hown' hgrow
  go_wp2
  go_ret
  exact ⟨v', rfl, hown', ((Below.refl base w).alloc hbase _).grown hgrow (by simp; omega) (fun k hk => (hown.1.lt k hk).1)⟩
theorem Put_long (ao : Option Addr) (n cap : Nat) (w : World) (hn : 65536 < n) (hcm : n ≤ 9223372036854775807) :
    Calls Tryz.prog 47 #[.slice ao n cap] w fun e w' => e = .returned (.tuple #[.slice none 0 0, .int .i64 3]) ∧ w = w' := by
  have hp : (65536 : Int) < (n : Int) := by omega
  go_enter Tryz.func47, Tryz.ntmps47
  go_wp2
  go_ret2
  exact ⟨rfl, rfl⟩
set_option maxRecDepth 100000 in
set_option maxHeartbeats 400000 in
theorem Put_any (ao : Option Addr) (n cap : Nat) (l : List UInt8) (w : World) (hs : IsBytes w ao n cap l) (hn : n ≤ 65536) :
    Calls Tryz.prog 47 #[.slice ao n cap] w fun e w' => ∃ v, e = .returned (.tuple #[v, .int .i64 0]) ∧ OwnB w' w.heap.size v (Fr.putF l) ∧ Below w.heap.size w w' := by
  have hl := hs.1
  have hp : (n : Int) ≤ 65536 := by omega
  have e4 : Fr.putF l = Fr.le4 n ++ Fr.le4 (4294967295 - n) ++ l ++ Fr.le4 (Fr.sumB l).toNat := by rw [← hl]; rfl
  have E4 := Lib.hid e4
  clear e4
  have HL := Lib.hid hl
  clear hl
  go_enter Tryz.func47, Tryz.ntmps47
  go_wp2_with fail
  refine (word_any w.heap.size n (.slice none 0 0) [] _ (by omega) (OwnB.nil _ _) (Nat.le_refl _) (by simp)).mono ?_
  rintro e w1 ⟨v1, rfl, hown1, hb1⟩
  have hnot := Fr.not_nat n (by omega)
  go_wp2_with fail
  clear hnot
  rw [List.nil_append] at hown1
  refine (word_any w.heap.size (4294967295 - n) v1 _ _ (by omega) hown1 hb1.size (by simp [Fr.le4])).mono ?_
  rintro e w2 ⟨v2, rfl, hown2, hb2⟩
  have hb12 := hb1.trans hb2
  have hs2 : IsBytes w2 ao n cap l := hs.later hb12
  have hbs := hb12.size
  go_wp2_with (at_builtin; refine wpList_append_bytes rfl _ _ rfl w.heap.size v2 _ rfl hown2 _ _ _ l rfl hs2 (by simp [Fr.le4]; omega) hb12.size ?_; intro v3 w3 hown3 hg3)
  have hb3 : Below w.heap.size w w3 := hb12.grown hg3 hb12.size (fun k hk => (hown2.1.lt k hk).1)
  refine (Sum_any _ _ _ l _ (hs.later hb3)).mono ?_
  rintro e w4 ⟨rfl, hb4⟩
  have hown4 := hown3.later hb4
  have hb34 := hb3.trans (hb4.mono hb3.size)
  have hlim := (Fr.sumB l).isLt
  go_wp2_with fail
  refine (word_any w.heap.size (Fr.sumB l).toNat v3 _ _ hlim hown4 hb34.size (by have := HL.out; simp [Fr.le4]; omega)).mono ?_
  rintro e w5 ⟨v5, rfl, hown5, hb5⟩
  go_wp2_with fail
  go_ret2
  exact ⟨v5, rfl, by rw [E4.out]; exact hown5, hb34.trans hb5⟩
end Go.Proofs.YtjkkfjmloleedaaGreat

/- slices of slices of bytes -/
namespace Go.Proofs.YtjkkfjmloleedaaGreat
open Go.RowKit
theorem IsBytes.add {w : World} {ao : Option Addr} {n cap : Nat} {l : List UInt8} (h : IsBytes w ao n cap l) (lo : Nat) (hlo : lo ≤ n) :
    IsBytes w (if cap = lo then ao else ao.map (·.add (lo * 1))) (n - lo) (cap - lo) (l.drop lo) := by
  obtain ⟨h1, h2, h3, h4, h5⟩ := h
  refine ⟨by simp; omega, by omega, by omega, ?_, ?_⟩
  · intro hl
    have hlt : lo < n := by
      have : 0 < (l.drop lo).length := by cases hq : l.drop lo; exact absurd hq hl; simp
      simp at this; omega
    obtain ⟨b, off, e, hc⟩ := h4 (by intro h0; rw [h0] at h1; simp at h1; omega)
    rw [if_neg (by omega), e]
    have hadd : (⟨b, off, none⟩ : Addr).add (lo * 1) = ⟨b, off + lo, none⟩ := by rw [Nat.mul_one]; unfold Addr.add; split <;> simp_all
    exact ⟨b, off + lo, by rw [Option.map_some, hadd], hc.drop lo⟩
  · intro hn
    have : ao = none := by
      split at hn
      · exact hn
      · simpa using hn
    have := h5 this
    omega
theorem IsBytes.cut {w : World} {ao : Option Addr} {n cap : Nat} {l : List UInt8} (h : IsBytes w ao n cap l) (hi : Nat) (hhi : hi ≤ n) :
    IsBytes w ao hi cap (l.take hi) := by
  obtain ⟨h1, h2, h3, h4, h5⟩ := h
  refine ⟨by simp; omega, by omega, h3, ?_, fun e => by have := h5 e; omega⟩
  intro hl
  obtain ⟨b, off, e, hc⟩ := h4 (by intro h0; rw [h0] at hl; simp at hl)
  exact ⟨b, off, e, hc.take hi⟩
theorem add_block (ao : Option Addr) (c lo k : Nat) : (if c = lo then ao else ao.map (·.add k)).map (·.block) = ao.map (·.block) := by
  split
  · rfl
  · cases ao with
    | none => rfl
    | some a => simp only [Option.map_some, Addr.add]; split <;> rfl
/-- 'b[lo:]'. -/
theorem slice_from {w : World} {ao : Option Addr} {n cap : Nat} {l : List UInt8} (h : IsBytes w ao n cap l) (lo : Nat) (hlo : lo ≤ n) :
    ∃ ao', (∀ w', (Instr.slice 36 (.slice ao n cap) (some (.int .i64 (lo : Int))) none none).run Tryz.prog w' = .ok (.slice ao' (n - lo) (cap - lo)) w') ∧ IsBytes w ao' (n - lo) (cap - lo) (l.drop lo) ∧ ao'.map (·.block) = ao.map (·.block) := by
  obtain ⟨i0, hi, hz0, hz1, hz2⟩ := info_parts Tryz.infoByte
  have h2 := h.2.1
  refine ⟨_, fun w' => ?_, h.add lo hlo, add_block _ _ _ _⟩
  have e1 : (Instr.sliceBounds true n cap (some (.int .i64 (lo : Int))) none none).run Tryz.prog w' = .ok (lo, n, cap) w' := by
    simp [Instr.sliceBounds, Instr.sliceBound, asIntOf, hlo]
  simp [Instr.slice, run_underlying Tryz.underlying36, e1, sizeOf, typeInfo, hi, hz1, Result.andThen]
/-- 'b[:hi]'. -/
theorem slice_to {w : World} {ao : Option Addr} {n cap : Nat} {l : List UInt8} (h : IsBytes w ao n cap l) (hi : Nat) (hhi : hi ≤ n) :
    (∀ w', (Instr.slice 36 (.slice ao n cap) none (some (.int .i64 (hi : Int))) none).run Tryz.prog w' = .ok (.slice ao hi cap) w') ∧ IsBytes w ao hi cap (l.take hi) := by
  obtain ⟨i0, hi0, hz0, hz1, hz2⟩ := info_parts Tryz.infoByte
  have h2 := h.2.1
  have hle : hi ≤ cap := by omega
  refine ⟨fun w' => ?_, h.cut hi hhi⟩
  have e1 : (Instr.sliceBounds true n cap none (some (.int .i64 (hi : Int))) none).run Tryz.prog w' = .ok (0, hi, cap) w' := by
    simp [Instr.sliceBounds, Instr.sliceBound, asIntOf, hle]
  simp [Instr.slice, run_underlying Tryz.underlying36, e1, sizeOf, typeInfo, hi0, Result.andThen]
  cases ao with
  | none => simp
  | some a => simp [Addr.add]
/-- 'b[lo:hi]'. -/
theorem slice_both {w : World} {ao : Option Addr} {n cap : Nat} {l : List UInt8} (h : IsBytes w ao n cap l) (lo hi : Nat) (hlo : lo ≤ hi) (hhi : hi ≤ n) :
    ∃ ao', (∀ w', (Instr.slice 36 (.slice ao n cap) (some (.int .i64 (lo : Int))) (some (.int .i64 (hi : Int))) none).run Tryz.prog w' = .ok (.slice ao' (hi - lo) (cap - lo)) w') ∧ IsBytes w ao' (hi - lo) (cap - lo) ((l.take hi).drop lo) ∧ ao'.map (·.block) = ao.map (·.block) := by
  obtain ⟨i0, hi0, hz0, hz1, hz2⟩ := info_parts Tryz.infoByte
  have h2 := h.2.1
  have hle : hi ≤ cap := by omega
  refine ⟨_, fun w' => ?_, (h.cut hi hhi).add lo hlo, add_block _ _ _ _⟩
  have e1 : (Instr.sliceBounds true n cap (some (.int .i64 (lo : Int))) (some (.int .i64 (hi : Int))) none).run Tryz.prog w' = .ok (lo, hi, cap) w' := by
    simp [Instr.sliceBounds, Instr.sliceBound, asIntOf, hle, hlo]
  simp [Instr.slice, run_underlying Tryz.underlying36, e1, sizeOf, typeInfo, hi0, hz1, Result.andThen]
end Go.Proofs.YtjkkfjmloleedaaGreat

/- lists of slices of bytes that the call itself made -/
namespace Go.Proofs.YtjkkfjmloleedaaGreat
open Go.RowKit
theorem Tryz.infoSlice : (Tryz.prog.info? 36).map (fun i => (i.zero, i.size, i.bytes)) = some (some (.slice none 0 0), 1, 24) := by kernel_rfl
/-- the slice value v owns slices that own the bytes of L, one behind the other. -/
def Lists (w : World) (base : Nat) (v : Value) (L : List (List UInt8)) : Prop :=
  ∃ vs : List Value, vs.length = L.length ∧ (w.ownsRow base 36 1 v L.length vs ∧ AllCells w v (fun u => plainV u = true)) ∧
    ∀ i, i < L.length → ∃ u, vs[i]? = some u ∧ OwnB w base u (L.getD i [])
theorem Lists.nil (w : World) (base : Nat) : Lists w base (.slice none 0 0) [] := ⟨[], rfl, ⟨World.ownsRow_nil _ _ _ _, fun g c t f hg => by simp [Value.ownBlock] at hg⟩, fun i h => absurd h (by simp)⟩
theorem Lists.later {w w' : World} {base : Nat} {v : Value} {L : List (List UInt8)} (h : Lists w base v L) (hb : Below w.heap.size w w') : Lists w' base v L := by
  obtain ⟨vs, h1, ⟨h2, h2a⟩, h3⟩ := h
  refine ⟨vs, h1, ⟨ownsRow_later h2 hb, h2a.move (fun g hg => hb.block g (h2.lt g hg).2)⟩, fun i hi => ?_⟩
  obtain ⟨u, hu, ho⟩ := h3 i hi
  exact ⟨u, hu, ho.later hb⟩
theorem Lists.base {w : World} {base base' : Nat} {v : Value} {L : List (List UInt8)} (h : Lists w base v L) (hb : base' ≤ base) : Lists w base' v L := by
  obtain ⟨vs, h1, ⟨h2, h2a⟩, h3⟩ := h
  refine ⟨vs, h1, ⟨ownsRow_base h2 hb, h2a⟩, fun i hi => ?_⟩
  obtain ⟨x, hx, ho⟩ := h3 i hi
  exact ⟨x, hx, ho.base hb⟩
/-- a step that turns no block with cells of these two types. -/
theorem Lists.move {w w' : World} {base : Nat} {v : Value} {L : List (List UInt8)} (h : Lists w base v L)
    (hb : ∀ (g : Nat) (c : Array Value) (t : Nat), w.heap[g]? = some (Obj.cells c t (0, 0)) → t = 36 ∨ t = 5 → w'.heap[g]? = w.heap[g]?) : Lists w' base v L := by
  have key : ∀ {e s n : Nat} {u : Value} {xs : List Value}, w.ownsRow base e s u n xs → e = 36 ∨ e = 5 → ∀ g, u.ownBlock = some g → w'.heap[g]? = w.heap[g]? := by
    intro e s n u xs hu he g hg
    rcases hu.2 with ⟨rfl, _⟩ | ⟨g', cap, cur, rfl, _, hg', _⟩
    · simp [Value.ownBlock] at hg
    · simp only [Value.ownBlock, Option.some.injEq] at hg
      subst hg
      exact hb _ _ _ hg' he
  obtain ⟨vs, h1, ⟨h2, h2a⟩, h3⟩ := h
  refine ⟨vs, h1, ⟨ownsRow_move h2 (key h2 (.inl rfl)), h2a.move (key h2 (.inl rfl))⟩, fun i hi => ?_⟩
  obtain ⟨u, hu, ho⟩ := h3 i hi
  exact ⟨u, hu, ho.move (key ho.1 (.inr rfl))⟩
theorem Lists.setCell {w : World} {base b off t : Nat} {v u : Value} {L : List (List UInt8)} {c : Array Value} {f : Nat × Nat} (h : Lists w base v L) (hb : w.heap[b]? = some (.cells c t f)) (ht : t ≠ 36) (ht2 : t ≠ 5) :
    Lists (w.setCell ⟨b, off, none⟩ u) base v L :=
  Lists.move h fun g c' t' hg he => Below.heap_setCell _ _ _ _ (by
    intro e
    simp only at e
    subst e
    rw [hb] at hg
    injection hg with hg
    injection hg with _ h2
    subst h2
    rcases he with he | he
    · exact ht he
    · exact ht2 he)
theorem Lists.putObj {w : World} {base r : Nat} {v : Value} {L : List (List UInt8)} {o o' : Obj} (h : Lists w base v L) (hr : w.heap[r]? = some o) (ho : o.isCells = false) : Lists (w.putObj r o') base v L :=
  Lists.move h fun g c' t' hg _ => World.putObj_heap_other (by intro e; subst e; rw [hr] at hg; cases hg; simp [Obj.isCells] at ho)
theorem Lists.snoc {w w' : World} {base : Nat} {v v' u : Value} {L : List (List UInt8)} {r : List UInt8} {vs : List Value} (hL : vs.length = L.length)
    (hi : ∀ i, i < L.length → ∃ u, vs[i]? = some u ∧ OwnB w base u (L.getD i []))
    (hv : w.ownsRow base 36 1 v L.length vs) (hu : OwnB w base u r) (hown : w'.ownsRow base 36 1 v' (L.length + 1) (vs ++ [u]) ∧ AllCells w' v' (fun u => plainV u = true)) (hg : w.grownBy w' v.ownBlock) :
    Lists w' base v' (L ++ [r]) := by
  refine ⟨vs ++ [u], by simp [hL], ⟨by simpa using hown.1, hown.2⟩, fun i hi' => ?_⟩
  by_cases h : i < L.length
  · obtain ⟨x, hx, ho⟩ := hi i h
    have e : (L ++ [r]).getD i [] = L.getD i [] := by simp [List.getD_eq_getElem?_getD, List.getElem?_append_left h]
    refine ⟨x, by rw [List.getElem?_append_left (by omega)]; exact hx, ?_⟩
    rw [e]
    exact ho.kept hg (ownBlock_ne (by decide) hv ho.1)
  · obtain rfl : i = L.length := by simp at hi'; omega
    have e : (L ++ [r]).getD L.length [] = r := by simp [List.getD_eq_getElem?_getD]
    refine ⟨u, by rw [← hL]; simp, ?_⟩
    rw [e]
    exact hu.kept hg (ownBlock_ne (by decide) hv hu.1)
end Go.Proofs.YtjkkfjmloleedaaGreat

/- apportionkit: SameBytes, .. -/
namespace Go.Proofs.YtjkkfjmloleedaaGreat
open Go.RowKit
theorem push_fold (l : List UInt8) : ∀ r : ByteArray, ((l.map fun c => ((c.toNat : Nat) : Int)).foldl (fun r n => r.push (UInt8.ofNat n.toNat)) r) = ⟨r.data ++ l.toArray⟩ := by
  induction l with
  | nil => intro r; simp
  | cons c l ih =>
    intro r
    rw [List.map_cons, List.foldl_cons, ih]
    simp [ByteArray.push, UInt8.ofNat_toNat]
theorem convert_bytes {w : World} {ao : Option Addr} {n cap : Nat} {l : List UInt8} (h : IsBytes w ao n cap l) :
    (convert 36 9 (.slice ao n cap)).run Tryz.prog w = .ok (.string ⟨l.toArray⟩) w := by
  rw [run_convert_bytes_string w _ _ _ _ _ _ Tryz.underlying36 Tryz.underlying5 Tryz.underlying9]
  cases ao with
  | none =>
    obtain ⟨rfl, rfl⟩ := h.2.2.2.2 rfl
    obtain rfl : l = [] := List.eq_nil_of_length_eq_zero h.1
    rfl
  | some a =>
    obtain ⟨b, off, spot⟩ := a
    have hl := run_loadCells_list (P := Tryz.prog) w ⟨b, off, spot⟩ (u8s l) h.cells
    rw [u8s_length, h.1] at hl
    have e : (l.map fun c => ((c.toNat : Nat) : Int)).map (Value.int .u8) = u8s l := by rw [List.map_map]; rfl
    rw [run_bytesToString w _ n cap (l.map fun c => ((c.toNat : Nat) : Int)) (by rw [e]; exact hl), push_fold]
    simp
set_option maxRecDepth 100000 in
set_option maxHeartbeats 400000 in
theorem SameBytes_any (ao bo : Option Addr) (n m cap cap2 : Nat) (l l2 : List UInt8) (w : World) (h1 : IsBytes w ao n cap l) (h2 : IsBytes w bo m cap2 l2) :
    Calls Tryz.prog 35 #[.slice ao n cap, .slice bo m cap2] w fun e w' => e = .returned (.bool (l == l2)) ∧ w = w' := by
  have c1 := convert_bytes h1
  have c2 := convert_bytes h2
  go_enter Tryz.func35, Tryz.ntmps35
  go_wp2
  go_ret
  exact ⟨rfl, rfl⟩
/-- a slice of slices of bytes reads as L. -/
def IsLists (w : World) (ao : Option Addr) (n cap : Nat) (L : List (List UInt8)) : Prop :=
  L.length = n ∧ n ≤ cap ∧ cap ≤ maxLen ∧ (ao = none → n = 0 ∧ cap = 0) ∧
    ∀ i, i < n → ∃ b off aoi ni capi, ao = some ⟨b, off, none⟩ ∧ w.cell? ⟨b, off + i, none⟩ = some (.slice aoi ni capi) ∧ IsBytes w aoi ni capi (L.getD i [])
theorem IsLists.later {w w' : World} {ao : Option Addr} {n cap : Nat} {L : List (List UInt8)} (h : IsLists w ao n cap L) (hb : Below w.heap.size w w') : IsLists w' ao n cap L := by
  obtain ⟨h1, h2, h3, h4, h5⟩ := h
  refine ⟨h1, h2, h3, h4, fun i hi => ?_⟩
  obtain ⟨b, off, aoi, ni, capi, e, hc, hbs⟩ := h5 i hi
  exact ⟨b, off, aoi, ni, capi, e, (hb.cell (p := ⟨b, off + i, none⟩) (block_lt_of_cell hc)).trans hc, hbs.later hb⟩
theorem Lists.reads {w : World} {base : Nat} {v : Value} {L : List (List UInt8)} (h : Lists w base v L) : ∃ ao cap, v = .slice ao L.length cap ∧ IsLists w ao L.length cap L := by
  obtain ⟨vs, h1, ⟨h2, _⟩, h3⟩ := h
  rcases h2.2 with ⟨rfl, h0⟩ | ⟨g, cap, cur, rfl, hb, hg, hn, hm, hs, ht⟩
  · have : L = [] := List.eq_nil_of_length_eq_zero h0
    subst this
    exact ⟨none, 0, rfl, rfl, Nat.le_refl _, by unfold maxLen; omega, fun _ => ⟨rfl, rfl⟩, fun i hi => absurd hi (by simp)⟩
  · refine ⟨_, cap, rfl, rfl, hn, hm, (fun h => by cases h), fun i hi => ?_⟩
    obtain ⟨u, hu, ho⟩ := h3 i hi
    obtain ⟨aoi, capi, rfl, hbs, _⟩ := ho.bytes
    have hc := h2.cells (g := g) rfl i _ hu
    have : (⟨g, 0, none⟩ : Addr).add i = ⟨g, 0 + i, none⟩ := by unfold Addr.add; split <;> simp_all
    rw [this] at hc
    exact ⟨g, 0, aoi, _, capi, rfl, hc, hbs⟩
theorem eq_of_getD {L M : List (List UInt8)} (h : L.length = M.length) (hi : ∀ i, i < L.length → L.getD i [] = M.getD i []) : L = M := by
  apply List.ext_getElem?
  intro i
  by_cases h1 : i < L.length
  · have := hi i h1
    rw [List.getD_eq_getElem?_getD, List.getD_eq_getElem?_getD, List.getElem?_eq_getElem h1, List.getElem?_eq_getElem (by omega)] at this
    rw [List.getElem?_eq_getElem h1, List.getElem?_eq_getElem (by omega)]
    simpa using this
  · rw [List.getElem?_eq_none (by omega), List.getElem?_eq_none (by omega)]
set_option maxRecDepth 100000 in
set_option maxHeartbeats 1000000 in
theorem SameLists_any (ao bo : Option Addr) (n m cap cap2 : Nat) (L M : List (List UInt8)) (w : World) (h1 : IsLists w ao n cap L) (h2 : IsLists w bo m cap2 M) :
    Calls Tryz.prog 42 #[.slice ao n cap, .slice bo m cap2] w fun e w' => e = .returned (.bool (L == M)) ∧ ∃ q, w' = w.drewN q := by
  have hAt : ∀ wr q, wr = w.drewN q → IsLists wr ao n cap L ∧ IsLists wr bo m cap2 M := fun wr q e => by
    subst e; exact ⟨h1.later (below_drewN (Below.refl _ _) q), h2.later (below_drewN (Below.refl _ _) q)⟩
  obtain ⟨hl, hnc, hcm, _, _⟩ := h1
  obtain ⟨hl2, hnc2, hcm2, _, _⟩ := h2
  unfold maxLen at hcm hcm2
  have HA := Lib.hid hAt
  have Hl := Lib.hid hl
  have Hl2 := Lib.hid hl2
  clear hAt hl hl2
  by_cases hnm : n = m
  · subst hnm
    go_enter Tryz.func42, Tryz.ntmps42
    go_wp2
    go_loopw [5] (fun i wr => ∃ k : Nat, k ≤ n ∧ i = .int .i64 k ∧ Hid (∃ q, wr = w.drewN q) ∧ Hid (∀ j, j < k → L.getD j [] = M.getD j [])) (fun i _ => n - (intOf i).toNat)
    case atStart => exact ⟨0, by omega, rfl, ⟨0, rfl⟩, fun j hj => absurd hj (by omega)⟩
    case round =>
      obtain ⟨k, hk, rfl, hq0, heq⟩ := hrel
      by_cases hlt : k < n
      · obtain ⟨b, off, aoi, ni, capi, rfl, hc, hbs⟩ := (HA.out wr _ hq0.out.choose_spec).1.2.2.2.2 k hlt
        obtain ⟨b2, off2, aoi2, ni2, capi2, rfl, hc2, hbs2⟩ := (HA.out wr _ hq0.out.choose_spec).2.2.2.2.2 k hlt
        have hi0 : (0 : Int) ≤ (k : Int) := by omega
        have hi1 : (k : Int) < (n : Int) := by omega
        by_cases hq : L.getD k [] = M.getD k []
        · have hcall : ∀ q', Calls Tryz.prog 35 #[.slice aoi ni capi, .slice aoi2 ni2 capi2] (wr.drewN q') fun e w' => e = .returned (.bool true) ∧ w' = wr.drewN q' := fun q' =>
            (SameBytes_any _ _ _ _ _ _ _ _ _ (hbs.drewN q') (hbs2.drewN q')).mono fun e w' h => ⟨by rw [h.1, hq]; simp, h.2.symm⟩
          have HQ := Lib.hid hq
          have HC := Lib.hid hcall
          clear hq hcall hbs hbs2
          go_wp2_with fail
          go_quiet ((go_at_call 35; exact Calls.quiet_of_same (HC.out _)))
          go_wp2_with fail
          go_roundw
          case rel =>
            refine ⟨k + 1, by omega, by go_num, (by obtain ⟨q, hq⟩ := hq0.out; exact ⟨_, by rw [hq]; exact World.drewN_drewN _ _ _⟩), fun j hj => ?_⟩
            by_cases h : j < k
            · exact heq.out j h
            · obtain rfl : j = k := by omega
              exact HQ.out
          case measure => simp [intOf]; omega
        · have hcall : ∀ q', Calls Tryz.prog 35 #[.slice aoi ni capi, .slice aoi2 ni2 capi2] (wr.drewN q') fun e w' => e = .returned (.bool false) ∧ w' = wr.drewN q' := fun q' =>
            (SameBytes_any _ _ _ _ _ _ _ _ _ (hbs.drewN q') (hbs2.drewN q')).mono fun e w' h => ⟨by rw [h.1]; congr 2; rw [beq_eq_false_iff_ne]; exact hq, h.2.symm⟩
          have HQ := Lib.hid hq
          have HC := Lib.hid hcall
          clear hq hcall hbs hbs2
          go_wp2_with fail
          go_quiet ((go_at_call 35; exact Calls.quiet_of_same (HC.out _)))
          go_wp2_with fail
          go_ret
          have : (L == M) = false := by
            rw [beq_eq_false_iff_ne]; intro h; exact HQ.out (by rw [h])
          exact ⟨by rw [this]; rfl, (by obtain ⟨q, hq⟩ := hq0.out; exact ⟨_, by rw [hq]; exact World.drewN_drewN _ _ _⟩)⟩
      · obtain rfl : k = n := by omega
        go_wp2
        go_ret
        have : (L == M) = true := by
          rw [beq_iff_eq]; exact eq_of_getD (by rw [Hl.out, Hl2.out]) (fun i hi => heq.out i (by rw [Hl.out] at hi; exact hi))
        exact ⟨by rw [this]; rfl, hq0.out⟩
  · have hne : ¬ ((n : Int) = (m : Int)) := by omega
    go_enter Tryz.func42, Tryz.ntmps42
    go_wp2
    go_ret
    have : (L == M) = false := by
      rw [beq_eq_false_iff_ne]; intro h; apply hnm; rw [← Hl.out, ← Hl2.out, h]
    exact ⟨by rw [this]; rfl, 0, rfl⟩
set_option maxHeartbeats 400000 in
theorem Pick_any (x n : Int) (w : World) (hx0 : -9223372036854775808 ≤ x) (hx1 : x ≤ 9223372036854775807) (hn : 1 ≤ n) (hn2 : n ≤ 4611686018427387904) :
    Calls Tryz.prog 11 #[.int .i64 x, .int .i64 n] w fun e w' => e = .returned (.int .i64 (x % n)) ∧ w = w' := by
  by_cases h0 : 0 ≤ x
  · have hm := Int.emod_nonneg x (b := n) (by omega)
    have hm2 := Int.emod_lt_of_pos x (b := n) (by omega)
    go_enter Tryz.func11, Tryz.ntmps11
    go_wp2
    all_goals go_ret
    all_goals exact ⟨rfl, rfl⟩
  · have hm := Int.emod_nonneg x (b := n) (by omega)
    have hm2 := Int.emod_lt_of_pos x (b := n) (by omega)
    have ht : x.tmod n = if x % n = 0 then 0 else x % n - n := by
      rw [Int.tmod_eq_emod]
      by_cases hz : x % n = 0
      · have hd : n ∣ x := Int.dvd_of_emod_eq_zero hz
        rw [if_pos hz, if_pos (.inr hd)]; omega
      · have hd : ¬ n ∣ x := fun h => hz (Int.emod_eq_zero_of_dvd h)
        rw [if_neg hz, if_neg (by rintro (h | h); exact h0 h; exact hd h)]; omega
    go_enter Tryz.func11, Tryz.ntmps11
    go_wp2
    all_goals go_ret
    all_goals exact ⟨rfl, rfl⟩
end Go.Proofs.YtjkkfjmloleedaaGreat
