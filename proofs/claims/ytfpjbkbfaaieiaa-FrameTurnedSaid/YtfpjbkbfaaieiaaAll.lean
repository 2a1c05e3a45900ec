/- apportionlaw06.all -/
import Derived.Test.YtfpjbkbfaaieiaaCut
namespace Go.Proofs.Ytfpjbkbfaaieiaa
open Go.RowKit
theorem Try.infoInt : (Try.prog.info? 3).map (fun i => (i.zero, i.size, i.bytes)) = some (some (.int .i64 0), 1, 8) := by kernel_rfl
def ints (l : List Nat) : List Value := l.map fun (x : Nat) => Value.int .i64 (x : Int)
/-- the slice value v owns a row of the numbers l. -/
def OwnI (w : World) (base : Nat) (v : Value) (l : List Nat) : Prop := w.ownsRow base 3 1 v l.length (ints l)
theorem OwnI.later {w w' : World} {base : Nat} {v : Value} {l : List Nat} (h : OwnI w base v l) (hb : Below w.heap.size w w') : OwnI w' base v l := ownsRow_later h hb
theorem OwnI.kept {w w' : World} {base : Nat} {v : Value} {l : List Nat} {row : Option Nat} (h : OwnI w base v l) (hg : w.grownBy w' row) (hne : ∀ g, v.ownBlock = some g → some g ≠ row) : OwnI w' base v l :=
  ownsRow_move h (fun g hv => hg.block g (h.lt g hv).2 (hne g hv))
theorem OwnI.nil (w : World) (base : Nat) : OwnI w base (.slice none 0 0) [] := World.ownsRow_nil _ _ _ _
theorem OwnI.reads {w : World} {base : Nat} {v : Value} {l : List Nat} (h : OwnI w base v l) (hl : l ≠ []) :
    ∃ g cap, v = .slice (some ⟨g, 0, none⟩) l.length cap ∧ ∀ i, i < l.length → w.cell? ⟨g, i, none⟩ = some (.int .i64 ((l.getD i 0 : Nat) : Int)) := by
  rcases h.2 with ⟨rfl, h0⟩ | ⟨g, cap, cur, rfl, hb, hg, hn, hm, hs, ht⟩
  · exact absurd (List.eq_nil_of_length_eq_zero h0) hl
  · refine ⟨g, cap, rfl, fun i hi => ?_⟩
    have hu : (ints l)[i]? = some (.int .i64 ((l.getD i 0 : Nat) : Int)) := by
      simp [ints, List.getElem?_eq_getElem hi, List.getD]
    have hc := World.ownsRow.cells h (g := g) rfl i _ hu
    have : (⟨g, 0, none⟩ : Addr).add i = ⟨g, i, none⟩ := by unfold Addr.add; split <;> simp_all
    rwa [this] at hc
theorem OwnI.shape {w : World} {base : Nat} {v : Value} {l : List Nat} (h : OwnI w base v l) : ∃ ao cap, v = .slice ao l.length cap := ownsRow_shape h
theorem wpList_append_int {w : World} {ops : Array Oper} {rest : List Oper} {o : Oper} {a : Act} {Q : Exit → Act → World → Prop} (hgd : o.guard = none) (s x : Operand)
    (ho : o.op = .call { callee := .builtin .append, args := #[s, x], argTypes := #[39, 39] })
    (base : Nat) (v : Value) (l : List Nat) (hs : a.eval s = v) (hown : OwnI w base v l)
    (g : Nat) (hx : a.eval x = .slice (some ⟨g, 0, none⟩) 1 1) (m : Nat) (hg : w.heap[g]? = some (.cells #[.int .i64 (m : Int)] 3 (0, 0)))
    (hn : l.length ≤ 4294967296) (hbase : base ≤ w.heap.size)
    (h : ∀ v' w', OwnI w' base v' (l ++ [m]) → w.grownBy w' v.ownBlock → wpList Try.prog ops Q rest (a.put o.dst v') w') : wpList Try.prog ops Q (o :: rest) a w := by
  obtain ⟨i0, hi, hz0, hz1, hz2⟩ := info_parts Try.infoInt
  obtain ⟨v', w', hr, hx2, hgr, _⟩ := run_append_own (P := Try.prog) w base 39 o.type 3 i0 (.int .i64 0) 1 8 Try.underlying39 hi hz0 hz1 hz2 rfl (by decide) v l.length (ints l) hown ⟨g, 0, none⟩ 1 1 [.int .i64 (m : Int)] rfl
    (by
      intro j u hu
      match j, hu with
      | 0, hu =>
        simp at hu; subst hu
        rw [show (⟨g, 0, none⟩ : Addr).add 0 = ⟨g, 0, none⟩ from rfl, cell_of_row _ _ _ _ _ _ hg]; rfl)
    (by intro u hu; simp at hu; subst hu; rfl) (by unfold maxLen; omega) (by omega) hbase
  refine wpList_plain hgd fun K hK => ?_
  unfold Oper.wp execOp
  simp only [ho, resolve, invoke, builtin, Sem.run_bind, Sem.run_pure, Result.andThen_ok, List.map_toArray, List.map_cons, List.map_nil, hs, hx, hr]
  exact hK _ _ (h v' w' (by unfold OwnI; rw [List.length_append]; simpa [ints] using hx2) hgr)
/-- where the first k frames end. -/
def endsK (L : List (List UInt8)) (k : Nat) : List Nat := (List.range k).map fun i => (Fr.putAll (L.take (i + 1))).length
theorem endsK_length (L : List (List UInt8)) (k : Nat) : (endsK L k).length = k := by simp [endsK]
theorem endsK_get (L : List (List UInt8)) (k i : Nat) (h : i < k) : (endsK L k).getD i 0 = (Fr.putAll (L.take (i + 1))).length := by
  simp [endsK, List.getD, h]
theorem endsK_succ (L : List (List UInt8)) (k : Nat) : endsK L (k + 1) = endsK L k ++ [(Fr.putAll (L.take (k + 1))).length] := by
  simp [endsK, List.range_succ]
theorem putAll_le (L : List (List UInt8)) : ∀ k, k ≤ L.length → (∀ j, j < k → (L.getD j []).length ≤ 1000) → (Fr.putAll (L.take k)).length ≤ 1012 * k
  | 0, _, _ => by simp [Fr.putAll]
  | k + 1, hk, h => by
    have ih := putAll_le L k (by omega) (fun j hj => h j (by omega))
    have := h k (by omega)
    rw [putAll_succ L k (by omega), List.length_append, Fr.putF_length]
    omega
set_option maxRecDepth 100000 in
set_option maxHeartbeats 2000000 in
theorem all_any (ao : Option Addr) (n cap : Nat) (L : List (List UInt8)) (w : World) (hs : IsLists w ao n cap L) (hn : n ≤ 20) :
    Calls Try.prog 24 #[.slice ao n cap] w fun e w' => Below w.heap.size w w' ∧
      ((∃ v ve, e = .returned (.tuple #[v, ve, .bool true]) ∧ OwnB w' w.heap.size v (Fr.putAll L) ∧ OwnI w' w.heap.size ve (endsK L n) ∧ (∀ j, j < n → (L.getD j []).length ≤ 1000)) ∨
       e = .returned (.tuple #[.slice none 0 0, .slice none 0 0, .bool false])) := by
  have HS := Lib.hid hs
  have HL := Lib.hid hs.1
  clear hs
  go_enter Try.func24, Try.ntmps24
  go_wp2
  go_loopw [5, 6, 7] (fun b en i wr => ∃ k : Nat, k ≤ n ∧ i = .int .i64 k ∧ Hid (OwnB wr w.heap.size b (Fr.putAll (L.take k))) ∧ Hid (OwnI wr w.heap.size en (endsK L k)) ∧ Hid (Below w.heap.size w wr) ∧ Hid (∀ j, j < k → (L.getD j []).length ≤ 1000)) (fun _ _ i _ => n - (intOf i).toNat)
  case atStart => exact ⟨0, by omega, rfl, OwnB.nil _ _, OwnI.nil _ _, Below.refl _ _, fun j hj => absurd hj (by omega)⟩
  case round =>
    obtain ⟨k, hk, rfl, hown, hend, hbr, hall⟩ := hrel
    by_cases hlt : k < n
    case neg =>
      obtain rfl : k = n := by omega
      have ht : L.take k = L := List.take_of_length_le (by rw [HL.out]; exact Nat.le_refl _)
      rw [ht] at hown
      clear ht
      go_wp2
      go_ret3
      exact ⟨hbr.out, .inl ⟨_, _, rfl, hown.out, hend.out, hall.out⟩⟩
    have hsr := HS.out.later hbr.out
    obtain ⟨b1, off1, aoi, ni, capi, rfl, hc, hbs⟩ := hsr.2.2.2.2 k hlt
    have hbl := hbs.1
    obtain ⟨c, hcd⟩ : ∃ c, c = L.getD k [] := ⟨_, rfl⟩
    rw [← hcd] at hbs hbl
    have HBS := Lib.hid hbs
    have HBL := Lib.hid hbl
    have HCD := Lib.hid hcd
    have hk0 : (0 : Int) ≤ (k : Int) := by omega
    have hk1 : (k : Int) < (n : Int) := by omega
    clear hsr hbs hbl hcd
    by_cases hbig : ni ≤ 1000
    case neg =>
      have hb' : (1000 : Int) < (ni : Int) := by omega
      go_wp2
      go_ret3
      exact ⟨hbr.out, .inr rfl⟩
    have hb' : (ni : Int) ≤ 1000 := by omega
    have hal := putAll_le L k (by rw [HL.out]; exact hk) hall.out
    have hsu := putAll_succ L k (by rw [HL.out]; exact hlt)
    rw [← HCD.out] at hsu
    have HAL := Lib.hid hal
    have HSU := Lib.hid hsu
    clear hal hsu
    go_wp2_with fail
    refine (Put_any _ _ _ c wr HBS.out (by omega)).mono ?_
    rintro e w1 ⟨v1, rfl, ho1, hb1⟩
    have hpl : (Fr.putF c).length = ni + 12 := by rw [Fr.putF_length, HBL.out]
    obtain ⟨a1, c1, hv1, hs1, -⟩ := ho1.bytes
    rw [hpl] at hv1 hs1
    subst hv1
    have HS1 := Lib.hid hs1
    have HB1 := Lib.hid (hbr.out.trans (hb1.mono hbr.out.size))
    have HO1 := Lib.hid (hown.out.later hb1)
    have HE1 := Lib.hid (hend.out.later hb1)
    clear hs1 hb1 ho1 hpl
    go_wp2_with (first
      | (at_builtin; refine wpList_append_int rfl _ _ rfl w.heap.size _ _ rfl HE3.out w2.heap.size rfl (Fr.putAll (L.take (k + 1))).length (heap_alloc_new w2 _) (by rw [endsK_length]; omega) HB3.out.size ?_; intro v4 w4 hend4 hg4)
      | (at_builtin; refine wpList_append_bytes rfl _ _ rfl w.heap.size _ _ rfl HO1.out _ _ _ _ rfl HS1.out (by have := HAL.out; omega) HB1.out.size ?_; intro v2 w2 hown2 hg2
         have hb2 := HB1.out.grown hg2 HB1.out.size (fun k hk => (HO1.out.1.lt k hk).1)
         have he2 := HE1.out.kept hg2 (ownBlock_ne (by decide) HO1.out.1 HE1.out)
         rw [← HSU.out] at hown2
         have HO2 := Lib.hid hown2
         obtain ⟨a2, c2, rfl, -, -⟩ := hown2.bytes
         have hal2 : ∀ o, Below w2.heap.size w2 (w2.alloc o) := fun o => (Below.refl _ _).alloc (Nat.le_refl _) _
         have HB3 := Lib.hid (hb2.trans ((hal2 (.cells #[.int .i64 ((Fr.putAll (L.take (k + 1))).length : Int)] 3)).mono hb2.size))
         have HE3 := Lib.hid (he2.later (hal2 (.cells #[.int .i64 ((Fr.putAll (L.take (k + 1))).length : Int)] 3)))
         have HO3 := Lib.hid (hown2.later (hal2 (.cells #[.int .i64 ((Fr.putAll (L.take (k + 1))).length : Int)] 3)))
         clear hb2 he2 hown2 hg2 hal2))
    have HB4 := Lib.hid (HB3.out.grown hg4 HB3.out.size (fun k hk => (HE3.out.lt k hk).1))
    have HO4 := Lib.hid (HO3.out.kept hg4 (ownBlock_ne (by decide) HE3.out HO3.out.1))
    have HE4 := Lib.hid hend4
    clear hg4 hend4
    go_wp2_with fail
    go_roundw
    case rel =>
      refine ⟨k + 1, by omega, by go_num, HO4, (by rw [endsK_succ]; exact HE4), HB4, fun j hj => ?_⟩
      by_cases h : j < k
      · exact hall.out j h
      · obtain rfl : j = k := by omega
        rw [← HCD.out, HBL.out]; exact hbig
    case measure => simp [intOf]; omega
end Go.Proofs.Ytfpjbkbfaaieiaa
