/- what LedgerTorn goes by: rows of ints, lists cut short and put together -/
import Derived.Test.YtdglaacjefcfdaaLTurned
import Derived.Test.YtdglaacjefcfdaaLOpen6
import Derived.Laws.OwnMore
namespace Go.Proofs.Ytdglaacjefcfdaa
open Go.RowKit
theorem Try.infoInt : (Try.prog.info? 3).map (fun i => (i.zero, i.size, i.bytes)) = some (some (.int .i64 0), 1, 8) := by kernel_rfl
def ints (l : List Nat) : List Value := l.map fun (x : Nat) => Value.int .i64 (x : Int)
/-- the slice value v owns a row of the numbers l. -/
def OwnI (w : World) (base : Nat) (v : Value) (l : List Nat) : Prop := w.ownsRow base 3 1 v l.length (ints l) ∧ AllCells w v (fun u => plainV u = true)
theorem OwnI.later {w w' : World} {base : Nat} {v : Value} {l : List Nat} (h : OwnI w base v l) (hb : Below w.heap.size w w') : OwnI w' base v l := ⟨ownsRow_later h.1 hb, h.2.move (fun g hg => hb.block g (h.1.lt g hg).2)⟩
theorem OwnI.reads {w : World} {base : Nat} {v : Value} {l : List Nat} (h : OwnI w base v l) (hl : l ≠ []) :
    ∃ g cap, v = .slice (some ⟨g, 0, none⟩) l.length cap ∧ ∀ i, i < l.length → w.cell? ⟨g, i, none⟩ = some (.int .i64 ((l.getD i 0 : Nat) : Int)) := by
  rcases h.1.2 with ⟨rfl, h0⟩ | ⟨g, cap, cur, rfl, hb, hg, hn, hm, hs, ht⟩
  · exact absurd (List.eq_nil_of_length_eq_zero h0) hl
  · refine ⟨g, cap, rfl, fun i hi => ?_⟩
    have hu : (ints l)[i]? = some (.int .i64 ((l.getD i 0 : Nat) : Int)) := by
      simp [ints, List.getElem?_eq_getElem hi, List.getD]
    have hc := World.ownsRow.cells h.1 (g := g) rfl i _ hu
    have : (⟨g, 0, none⟩ : Addr).add i = ⟨g, i, none⟩ := by unfold Addr.add; split <;> simp_all
    rwa [this] at hc
theorem OwnI.shape {w : World} {base : Nat} {v : Value} {l : List Nat} (h : OwnI w base v l) : ∃ ao cap, v = .slice ao l.length cap := ownsRow_shape h.1
theorem wpList_append_int {w : World} {ops : Array Oper} {rest : List Oper} {o : Oper} {a : Act} {Q : Exit → Act → World → Prop} (hgd : o.guard = none) (s x : Operand)
    (ho : o.op = .call { callee := .builtin .append, args := #[s, x], argTypes := #[50, 50] })
    (base : Nat) (v : Value) (l : List Nat) (hs : a.eval s = v) (hown : OwnI w base v l)
    (g : Nat) (hx : a.eval x = .slice (some ⟨g, 0, none⟩) 1 1) (m : Nat) (hg : w.heap[g]? = some (.cells #[.int .i64 (m : Int)] 3 (0, 0)))
    (hn : l.length ≤ 4294967296) (hbase : base ≤ w.heap.size)
    (h : ∀ v' w', OwnI w' base v' (l ++ [m]) → w.grownBy w' v.ownBlock → wpList Try.prog ops Q rest (a.put o.dst v') w') : wpList Try.prog ops Q (o :: rest) a w := by
  obtain ⟨i0, hi, hz0, hz1, hz2⟩ := info_parts Try.infoInt
  obtain ⟨v', w', hr, hx2, hgr, hall, _, _⟩ := run_append_all (P := Try.prog) w base 50 o.type 3 i0 (.int .i64 0) 1 8 Try.underlying50 hi hz0 hz1 hz2 rfl (by decide) v l.length (ints l) hown.1 ⟨g, 0, none⟩ 1 1 [.int .i64 (m : Int)] rfl
    (by
      intro j u hu
      match j, hu with
      | 0, hu =>
        simp at hu; subst hu
        rw [show (⟨g, 0, none⟩ : Addr).add 0 = ⟨g, 0, none⟩ from rfl, cell_of_row _ _ _ _ _ _ hg]; rfl)
    (by intro u hu; simp at hu; subst hu; rfl) (by unfold maxLen; omega) (by omega) hbase (fun u => plainV u = true) (fun u hu => by simp [Value.cells] at hu; subst hu; rfl) (fun u hu => by simp at hu; subst hu; rfl) hown.2
  refine wpList_plain hgd fun K hK => ?_
  unfold Oper.wp execOp
  simp only [ho, resolve, invoke, builtin, Sem.run_bind, Sem.run_pure, Result.andThen_ok, List.map_toArray, List.map_cons, List.map_nil, hs, hx, hr]
  exact hK _ _ (h v' w' ⟨by rw [List.length_append]; simpa [ints] using hx2, hall⟩ hgr)
theorem wholeN_eq : ∀ (L : List (List UInt8)) (k A : Nat), k ≤ L.length → (Fr.putAll (L.take k)).length ≤ A → (k = L.length ∨ A < (Fr.putAll (L.take (k + 1))).length) → Fr.wholeN L A = k
  | [], k, A, h, _, _ => by have : k = 0 := by simpa using h
                            subst this; rfl
  | r :: L, 0, A, _, _, h => by
    rcases h with h | h
    · simp at h
    · have : A < r.length + 12 := by simpa [Fr.putAll, Fr.putF_length] using h
      unfold Fr.wholeN
      rw [if_neg (by omega)]
  | r :: L, k + 1, A, hk, h1, h2 => by
    have e : ∀ M : List (List UInt8), (Fr.putAll (r :: M)).length = r.length + 12 + (Fr.putAll M).length := fun M => by
      rw [show Fr.putAll (r :: M) = Fr.putF r ++ Fr.putAll M from rfl, List.length_append, Fr.putF_length]
    rw [List.take_succ_cons, e] at h1
    have ih := wholeN_eq L k (A - (r.length + 12)) (by simpa using hk) (by omega) (by
      rcases h2 with h | h
      · exact .inl (by simpa using h)
      · rw [List.take_succ_cons, e] at h
        exact .inr (by omega))
    unfold Fr.wholeN
    rw [if_pos (by omega), ih]
theorem wholeN_le : ∀ (L : List (List UInt8)) (A : Nat), Fr.wholeN L A ≤ L.length
  | [], _ => Nat.le_refl _
  | r :: L, A => by
    unfold Fr.wholeN
    split
    · have := wholeN_le L (A - (r.length + 12)); simp; exact this
    · exact Nat.zero_le _
theorem OwnI.row {w : World} {base n cap : Nat} {ao : Option Addr} {l : List Nat} (h : OwnI w base (.slice ao n cap) l) (hl : l ≠ []) : ∃ g, ao = some ⟨g, 0, none⟩ ∧ ∀ i, i < l.length → w.cell? ⟨g, i, none⟩ = some (.int .i64 ((l.getD i 0 : Nat) : Int)) := by
  obtain ⟨g, cap2, e, hc⟩ := h.reads hl
  injection e with e1 e2 e3
  exact ⟨g, e1, hc⟩
theorem IsLists.cut {w : World} {ao : Option Addr} {n cap : Nat} {L : List (List UInt8)} (h : IsLists w ao n cap L) (hi : Nat) (hhi : hi ≤ n) : IsLists w ao hi cap (L.take hi) := by
  obtain ⟨h1, h2, h3, h4, h5⟩ := h
  refine ⟨by simp; omega, by omega, h3, fun e => by have := h4 e; omega, fun i hlt => ?_⟩
  obtain ⟨b, off, aoi, ni, capi, e, hc, hb⟩ := h5 i (by omega)
  refine ⟨b, off, aoi, ni, capi, e, hc, ?_⟩
  have : (L.take hi).getD i [] = L.getD i [] := by simp [List.getD, hlt]
  rw [this]; exact hb
/-- 'l[:hi]'. -/
theorem slice_lists {w : World} {ao : Option Addr} {n cap : Nat} {L : List (List UInt8)} (h : IsLists w ao n cap L) (hi : Nat) (hhi : hi ≤ n) :
    (∀ w', (Instr.slice 22 (.slice ao n cap) none (some (.int .i64 (hi : Int))) none).run Try.prog w' = .ok (.slice ao hi cap) w') ∧ IsLists w ao hi cap (L.take hi) := by
  obtain ⟨i0, hi0, hz0, hz1, hz2⟩ := info_parts Try.infoSlice
  have h2 := h.2.1
  have hle : hi ≤ cap := by omega
  refine ⟨fun w' => ?_, h.cut hi hhi⟩
  have e1 : (Instr.sliceBounds true n cap none (some (.int .i64 (hi : Int))) none).run Try.prog w' = .ok (0, hi, cap) w' := by
    simp [Instr.sliceBounds, Instr.sliceBound, asIntOf, hle]
  simp [Instr.slice, run_underlying Try.underlying22, e1, sizeOf, typeInfo, hi0, Result.andThen]
  cases ao with
  | none => simp
  | some a => simp [Addr.add]
/-- where the first k frames begin, and the last of them ends. -/
def ends0 (L : List (List UInt8)) (k : Nat) : List Nat := (List.range (k + 1)).map fun i => (Fr.putAll (L.take i)).length
theorem ends0_length (L : List (List UInt8)) (k : Nat) : (ends0 L k).length = k + 1 := by simp [ends0]
theorem ends0_get (L : List (List UInt8)) (k i : Nat) (h : i ≤ k) : (ends0 L k).getD i 0 = (Fr.putAll (L.take i)).length := by
  simp [ends0, List.getD, show i < k + 1 by omega]
theorem ends0_succ (L : List (List UInt8)) (k : Nat) : ends0 L (k + 1) = ends0 L k ++ [(Fr.putAll (L.take (k + 1))).length] := by
  simp [ends0, List.range_succ]
theorem OwnI.one (w : World) (base : Nat) (hb : base ≤ w.heap.size) : OwnI (w.alloc (.cells #[.int .i64 0] 3)) base (.slice (some ⟨w.heap.size, 0, none⟩) 1 1) [0] :=
  ⟨⟨by simp [ints], .inr ⟨w.heap.size, 1, #[.int .i64 0], rfl, hb, heap_alloc_new _ _, Nat.le_refl _, by unfold maxLen; omega, rfl, by simp [ints]⟩⟩, fun g c t f hg hc u hu => by
    simp only [Value.ownBlock, Option.some.injEq] at hg
    subst hg
    rw [heap_alloc_new] at hc
    cases hc
    simp at hu
    subst hu
    rfl⟩
/-- another block's cells stay behind an Add. -/
theorem MovedL.cells {d mb f l base j : Nat} {w w' : World} {S : List UInt8} {D : List Deed} {n sz : Int} {br : Bool} {c : Array Value} {t : TypeId} {fr : Nat × Nat} (h : MovedL d mb f l base w w') (hd : DiskLog w d mb f S D) (hl : LedRow w l d n sz br) (hj : w.heap[j]? = some (.cells c t fr))
    (h1 : t ≠ 67) (h2 : t ≠ 77) (h3 : t ≠ 94) (h4 : t ≠ 46) : w'.heap[j]? = some (.cells c t fr) := by
  obtain ⟨st, fu, cc, b, hfu, hmd, hdr, hm, ⟨⟨ao, n, cap, al, m, capl, hr, hs, hds⟩, hf, hsm⟩⟩ := hd
  refine (h.block j (heap_lt hj) ?_ ?_ ?_ ?_ ?_).trans hj
  · rintro rfl; unfold DiskRow at hdr; rw [hdr] at hj; cases hj; exact h1 rfl
  · rintro rfl; rw [hm] at hj; cases hj
  · rintro rfl; unfold FileRow at hr; rw [hr] at hj; cases hj; exact h2 rfl
  · rintro rfl; unfold LedRow at hl; rw [hl] at hj; cases hj; exact h4 rfl
  · intro _ c' t' e; rw [hj] at e; cases e; exact h3 rfl
theorem OwnI.block {w : World} {base : Nat} {v : Value} {l : List Nat} (h : OwnI w base v l) {g : Nat} (hg : v.ownBlock = some g) : base ≤ g ∧ ∃ c, w.heap[g]? = some (.cells c 3 (0, 0)) ∧ ∀ u ∈ c.toList, plainV u = true := by
  rcases h.1.2 with ⟨rfl, _⟩ | ⟨g', cap, cur, rfl, hb, hg', _⟩
  · simp [Value.ownBlock] at hg
  · simp only [Value.ownBlock, Option.some.injEq] at hg
    subst hg
    exact ⟨hb, cur, hg', fun u hu => h.2 _ _ _ _ rfl hg' u (by simpa using hu)⟩
theorem OwnI.move {w w' : World} {base : Nat} {v : Value} {l : List Nat} (h : OwnI w base v l) (hk : ∀ (j : Nat) (c : Array Value), w.heap[j]? = some (.cells c 3 (0, 0)) → w'.heap[j]? = some (.cells c 3 (0, 0))) : OwnI w' base v l := by
  have hb : ∀ g, v.ownBlock = some g → w'.heap[g]? = w.heap[g]? := fun g hg => by
    obtain ⟨_, c, hc, _⟩ := h.block hg
    exact (hk _ _ hc).trans hc.symm
  exact ⟨ownsRow_move h.1 hb, h.2.move hb⟩
theorem TurnAt.later {w0 w w' : World} {base d mb f x c mbc k : Nat} {L : List (List UInt8)} (h : TurnAt w0 base d mb f x c mbc L k w) (hb : Below w.heap.size w w') (hs : base ≤ w.heap.size) : TurnAt w0 base d mb f x c mbc L k w' :=
  ⟨h.led.later hb, h.disk.later hb, h.other.later hb, h.low.trans (hb.mono hs)⟩
theorem TurnAt.grown {w0 w w' : World} {base d mb f x c mbc k : Nat} {L : List (List UInt8)} {en : Value} {l : List Nat} (h : TurnAt w0 base d mb f x c mbc L k w) (ho : OwnI w base en l) (hg : w.grownBy w' en.ownBlock) (hs : base ≤ w.heap.size) : TurnAt w0 base d mb f x c mbc L k w' := by
  have hne : ∀ {j : Nat} {cs : Array Value} {t : TypeId} {fr : Nat × Nat}, w.heap[j]? = some (.cells cs t fr) → t ≠ 3 → some j ≠ en.ownBlock := fun hj ht => box_ne hj ho.1 ht
  refine ⟨(hg.block x (heap_lt h.led) (hne h.led (by decide))).trans h.led, h.disk.moved (fun j => some j = en.ownBlock) (fun j hj => ?_) (fun j hj hn => hg.block j hj hn), ?_, h.low.grown hg hs (fun g hh => (ho.block hh).1)⟩
  · obtain ⟨_, cs, hc, hp⟩ := ho.block hj.symm
    exact ⟨cs, _, _, hc, by decide, by decide, by decide, hp⟩
  · obtain ⟨st, fu, cc, q1, q2, q3, q4⟩ := h.other
    exact ⟨st, fu, cc, q1, q2, (hg.block c q3.lt (hne q3 (by decide))).trans q3, (hg.block mbc (heap_lt q4) (obj_ne q4 (fun _ _ _ e => by cases e) ho.1)).trans q4⟩
/-- the slices that a list of slices holds. -/
theorem IsLists.values {w : World} {b off n cap : Nat} {L : List (List UInt8)} (h : IsLists w (some ⟨b, off, none⟩) n cap L) : ∃ vs : List Value, vs.length = n ∧ (∀ j u, vs[j]? = some u → w.cell? ⟨b, off + j, none⟩ = some u) ∧ ∀ i, i < n → ∃ aoi ni capi, vs[i]? = some (.slice aoi ni capi) ∧ IsBytes w aoi ni capi (L.getD i []) := by
  have each : ∀ i, ∃ u : Value, i < n → w.cell? ⟨b, off + i, none⟩ = some u ∧ ∃ aoi ni capi, u = .slice aoi ni capi ∧ IsBytes w aoi ni capi (L.getD i []) := by
    intro i
    by_cases hi : i < n
    · obtain ⟨b', off', aoi, ni, capi, e, hc, hb⟩ := h.2.2.2.2 i hi
      cases e
      exact ⟨_, fun _ => ⟨hc, aoi, ni, capi, rfl, hb⟩⟩
    · exact ⟨.nilIface, fun hh => absurd hh hi⟩
  obtain ⟨R, hR⟩ := Classical.axiomOfChoice each
  refine ⟨(List.range n).map R, by simp, fun j u hu => ?_, fun i hi => ?_⟩
  · have hj : j < n := by
      rcases Nat.lt_or_ge j n with h | h
      · exact h
      · rw [List.getElem?_eq_none (by simpa using h)] at hu; cases hu
    have : u = R j := by simp [hj] at hu; exact hu.symm
    rw [this]
    exact (hR j hj).1
  · obtain ⟨_, aoi, ni, capi, e, hb⟩ := hR i hi
    exact ⟨aoi, ni, capi, by simp [hi, e], hb⟩
/-- a row of slices of one's own, each of which reads as so many bytes. -/
def OwnL (w : World) (base : Nat) (v : Value) (L : List (List UInt8)) : Prop :=
  ∃ vs : List Value, w.ownsRow base 24 1 v L.length vs ∧ AllCells w v notU8 ∧ ∀ i, i < L.length → ∃ aoi ni capi, vs[i]? = some (.slice aoi ni capi) ∧ IsBytes w aoi ni capi (L.getD i [])
theorem OwnL.reads {w : World} {base : Nat} {v : Value} {L : List (List UInt8)} (h : OwnL w base v L) : ∃ ao cap, v = .slice ao L.length cap ∧ IsLists w ao L.length cap L := by
  obtain ⟨vs, h2, _, h3⟩ := h
  rcases h2.2 with ⟨rfl, h0⟩ | ⟨g, cap, cur, rfl, hb, hg, hn, hm, hs, ht⟩
  · have : L = [] := List.eq_nil_of_length_eq_zero h0
    subst this
    exact ⟨none, 0, rfl, IsLists.nil w⟩
  · refine ⟨_, cap, rfl, rfl, hn, hm, (fun h => by cases h), fun i hi => ?_⟩
    obtain ⟨aoi, ni, capi, hu, ho⟩ := h3 i hi
    have hc := h2.cells (g := g) rfl i _ hu
    have : (⟨g, 0, none⟩ : Addr).add i = ⟨g, 0 + i, none⟩ := by unfold Addr.add; split <;> simp_all
    rw [this] at hc
    exact ⟨g, 0, aoi, ni, capi, rfl, hc, ho⟩
theorem OwnL.none_new (w : World) (base : Nat) (hb : base ≤ w.heap.size) : OwnL (w.alloc (.cells #[] 24)) base (.slice (some ⟨w.heap.size, 0, none⟩) 0 0) [] :=
  ⟨[], World.ownsRow_made w #[] 0 hb (by unfold maxLen; omega) (by simp), fun g c t f hg hc u hu => by
    simp only [Value.ownBlock, Option.some.injEq] at hg
    subst hg
    rw [heap_alloc_new] at hc
    cases hc
    simp at hu, fun i hi => absurd hi (by simp)⟩
/-- 'append(own, lists...)'. -/
theorem run_append_lists {w : World} (ty base : Nat) (v : Value) (L : List (List UInt8)) (hown : OwnL w base v L) (ao : Option Addr) (m c : Nat) (M : List (List UInt8)) (hsrc : IsLists w ao m c M)
    (hnm : L.length + m ≤ 1000000) (hbase : base ≤ w.heap.size) :
    ∃ v' w', (Builtin.append_ #[22, 22] ty #[v, .slice ao m c]).run Try.prog w = .ok v' w' ∧ OwnL w' base v' (L ++ M) ∧ w.grownBy w' v.ownBlock := by
  obtain ⟨i0, hi, hz0, hz1, hz2⟩ := info_parts Try.infoSlice
  obtain ⟨vs, ho, ha, hv⟩ := hown
  have hM := hsrc.1
  have hne : ∀ {j off : Nat} {u : Int}, w.cell? ⟨j, off, none⟩ = some (.int .u8 u) → some j ≠ v.ownBlock := by
    intro j off u hj e
    rcases ho.2 with ⟨rfl, _⟩ | ⟨g', cap', cur, rfl, _, hg', _⟩
    · simp [Value.ownBlock] at e
    · simp only [Value.ownBlock, Option.some.injEq] at e
      subst e
      simp only [World.cell?, hg'] at hj
      exact ha _ _ _ _ rfl hg' _ (Array.mem_of_getElem? hj) u rfl
  have hkeep : ∀ {w' : World}, w.grownBy w' v.ownBlock → ∀ {aoi : Option Addr} {ni capi : Nat} {l : List UInt8}, IsBytes w aoi ni capi l → IsBytes w' aoi ni capi l :=
    fun hg _ _ _ _ hb => hb.moved (fun j _ _ hc => hg.block j (block_lt_of_cell hc) (hne hc))
  cases ao with
  | none =>
    obtain ⟨rfl, rfl⟩ := hsrc.2.2.2.1 rfl
    obtain rfl : M = [] := List.eq_nil_of_length_eq_zero hM
    exact ⟨v, w, run_append_owned_none (P := Try.prog) (w := w) base _ ty _ i0 1 Try.underlying22 hi v _ _ ho, by rw [List.append_nil]; exact ⟨vs, ho, ha, hv⟩, ⟨rfl, rfl, rfl, Nat.le_refl _, fun _ _ _ => rfl⟩⟩
  | some ad =>
    have hsrc' := hsrc
    by_cases hm0 : m = 0
    · subst hm0
      obtain rfl : M = [] := List.eq_nil_of_length_eq_zero hM
      obtain ⟨v', w', hr, h2, h3, h4, _, _⟩ := run_append_all (P := Try.prog) w base 22 ty _ i0 _ 1 24 Try.underlying22 hi hz0 hz1 hz2 rfl (by decide) v _ _ ho ad 0 c [] rfl (fun j y hy => by simp at hy) (fun y hy => by cases hy) (by unfold maxLen; omega) (by omega) hbase notU8
        (fun y hy n => by simp [Value.cells] at hy; subst hy; intro h; cases h) (fun y hy => by cases hy) ha
      exact ⟨v', w', hr, ⟨vs, by simpa using h2, h4, fun i hi => by
        obtain ⟨aoi, ni, capi, hu, hb⟩ := hv i (by simpa using hi)
        exact ⟨aoi, ni, capi, hu, hkeep h3 (by simpa using hb)⟩⟩, h3⟩
    · obtain ⟨b, off, _, _, _, e, _, _⟩ := hsrc.2.2.2.2 0 (by omega)
      cases e
      obtain ⟨us, hul, hcell, hub⟩ := hsrc'.values
      have hone : ∀ u ∈ us, ∃ aoi ni capi, u = .slice aoi ni capi := by
        intro u hu
        obtain ⟨i, hi, rfl⟩ := List.getElem_of_mem hu
        obtain ⟨aoi, ni, capi, e, _⟩ := hub i (by omega)
        rw [List.getElem?_eq_getElem hi] at e
        exact ⟨aoi, ni, capi, by injection e⟩
      obtain ⟨v', w', hr, h2, h3, h4, _, _⟩ := run_append_all (P := Try.prog) w base 22 ty _ i0 _ 1 24 Try.underlying22 hi hz0 hz1 hz2 rfl (by decide) v _ _ ho ⟨b, off, none⟩ m c us (by omega) (fun j y hy => by
          have : (⟨b, off, none⟩ : Addr).add j = ⟨b, off + j, none⟩ := by unfold Addr.add; split <;> simp_all
          rw [this]; exact hcell j y hy) (fun y hy => by obtain ⟨_, _, _, rfl⟩ := hone y hy; rfl) (by unfold maxLen; omega) (by omega) hbase notU8
        (fun y hy n => by simp [Value.cells] at hy; subst hy; intro h; cases h) (fun y hy n => by obtain ⟨_, _, _, rfl⟩ := hone y hy; intro h; cases h) ha
      refine ⟨v', w', hr, ⟨vs ++ us, by rw [List.length_append, hM]; exact h2, h4, fun i hi => ?_⟩, h3⟩
      have hvl : vs.length = L.length := by have := ho.1; omega
      by_cases h : i < L.length
      · obtain ⟨aoi, ni, capi, hu, hb⟩ := hv i h
        refine ⟨aoi, ni, capi, by rw [List.getElem?_append_left (by omega)]; exact hu, ?_⟩
        rw [show (L ++ M).getD i [] = L.getD i [] by simp [List.getD_eq_getElem?_getD, List.getElem?_append_left h]]
        exact hkeep h3 hb
      · rw [List.length_append] at hi
        obtain ⟨aoi, ni, capi, hu, hb⟩ := hub (i - L.length) (by omega)
        refine ⟨aoi, ni, capi, by rw [List.getElem?_append_right (by omega), hvl]; exact hu, ?_⟩
        rw [show (L ++ M).getD i [] = M.getD (i - L.length) [] by simp [List.getD_eq_getElem?_getD, List.getElem?_append_right (show L.length ≤ i by omega)]]
        exact hkeep h3 hb
theorem wpOp_append_lists {w : World} {ops : Array Oper} {rest : List Oper} {o : Oper} {a : Act} {Q : Exit → Act → World → Prop} (s x : Operand)
    (ho : o.op = .call { callee := .builtin .append, args := #[s, x], argTypes := #[22, 22] })
    (base : Nat) (v : Value) (L : List (List UInt8)) (hs : a.eval s = v) (hown : OwnL w base v L) (ao : Option Addr) (m c : Nat) (M : List (List UInt8)) (hx : a.eval x = .slice ao m c) (hsrc : IsLists w ao m c M)
    (hnm : L.length + m ≤ 1000000) (hbase : base ≤ w.heap.size)
    (h : ∀ v' w', OwnL w' base v' (L ++ M) → w.grownBy w' v.ownBlock → wpList Try.prog ops Q rest (a.put o.dst v') w') : o.wp Try.prog a w (wpList Try.prog ops Q rest) Q := by
  obtain ⟨v', w', hr, h2, h3⟩ := run_append_lists o.type base v L hown ao m c M hsrc hnm hbase
  unfold Oper.wp execOp
  simp only [ho, resolve, invoke, builtin, Sem.run_bind, Sem.run_pure, Result.andThen_ok, List.map_toArray, List.map_cons, List.map_nil, hs, hx, hr]
  exact h v' w' h2 h3
theorem wpList_append_lists {w : World} {ops : Array Oper} {rest : List Oper} {o : Oper} {a : Act} {Q : Exit → Act → World → Prop} (hw : Region.wanted o (yielded ops a.tmps) = true) (s x : Operand)
    (ho : o.op = .call { callee := .builtin .append, args := #[s, x], argTypes := #[22, 22] })
    (base : Nat) (v : Value) (L : List (List UInt8)) (hs : a.eval s = v) (hown : OwnL w base v L) (ao : Option Addr) (m c : Nat) (M : List (List UInt8)) (hx : a.eval x = .slice ao m c) (hsrc : IsLists w ao m c M)
    (hnm : L.length + m ≤ 1000000) (hbase : base ≤ w.heap.size)
    (h : ∀ v' w', OwnL w' base v' (L ++ M) → w.grownBy w' v.ownBlock → wpList Try.prog ops Q rest (a.put o.dst v') w') : wpList Try.prog ops Q (o :: rest) a w := by
  unfold wpList
  rw [if_pos hw]
  exact .inl (wpOp_append_lists s x ho base v L hs hown ao m c M hx hsrc hnm hbase h)
theorem OwnL.below {w w' a : World} {base : Nat} {v : Value} {L : List (List UInt8)} (h : OwnL w base v L) (hb : Below base a w) (hg : w.grownBy w' v.ownBlock) (hB : base ≤ w.heap.size) : Below base a w' := by
  obtain ⟨vs, ho, _⟩ := h
  exact hb.grown hg hB (fun k hk => (ho.lt k hk).1)
theorem OwnL.later {w w' : World} {base : Nat} {v : Value} {L : List (List UInt8)} (h : OwnL w base v L) (hb : Below w.heap.size w w') : OwnL w' base v L := by
  obtain ⟨vs, ho, ha, hi⟩ := h
  refine ⟨vs, ownsRow_later ho hb, ha.move (fun g hg => hb.block g (ho.lt g hg).2), fun i hl => ?_⟩
  obtain ⟨aoi, ni, capi, hu, hbs⟩ := hi i hl
  exact ⟨aoi, ni, capi, hu, hbs.later hb⟩
theorem one_list {w : World} {g : Nat} {bo : Option Addr} {m cap : Nat} {B : List UInt8} (hg : w.heap[g]? = some (.cells #[.slice bo m cap] 24 (0, 0))) (hB : IsBytes w bo m cap B) : IsLists w (some ⟨g, 0, none⟩) 1 1 [B] := by
  refine ⟨rfl, Nat.le_refl _, by unfold maxLen; omega, (fun e => by cases e), fun i hi => ?_⟩
  obtain rfl : i = 0 := by omega
  exact ⟨g, 0, bo, m, cap, rfl, cell_of_row _ _ _ _ _ _ hg, hB⟩
end Go.Proofs.Ytdglaacjefcfdaa
