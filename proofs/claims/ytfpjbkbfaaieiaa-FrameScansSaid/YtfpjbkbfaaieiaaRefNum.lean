/- apportionref06: number; an append of one slice to a slice of slices -/
import Derived.Test.YtfpjbkbfaaieiaaPuts
namespace Go.Proofs.Ytfpjbkbfaaieiaa
open Go.RowKit
theorem Lists.lt {w : World} {base : Nat} {v : Value} {L : List (List UInt8)} (h : Lists w base v L) : ∀ g, v.ownBlock = some g → base ≤ g ∧ g < w.heap.size := by
  obtain ⟨vs, _, h2, _⟩ := h
  exact fun g hg => h2.lt g hg
theorem wpList_append_lists {w : World} {ops : Array Oper} {rest : List Oper} {o : Oper} {a : Act} {Q : Exit → Act → World → Prop} (hgd : o.guard = none) (s x : Operand)
    (ho : o.op = .call { callee := .builtin .append, args := #[s, x], argTypes := #[33, 33] })
    (base : Nat) (v : Value) (L : List (List UInt8)) (hs : a.eval s = v) (hown : Lists w base v L)
    (g : Nat) (hx : a.eval x = .slice (some ⟨g, 0, none⟩) 1 1) (u : Value) (r : List UInt8) (hu : OwnB w base u r) (hg : w.heap[g]? = some (.cells #[u] 22 (0, 0)))
    (hn : L.length ≤ 4294967296) (hbase : base ≤ w.heap.size)
    (h : ∀ v' w', Lists w' base v' (L ++ [r]) → w.grownBy w' v.ownBlock → wpList Try.prog ops Q rest (a.put o.dst v') w') : wpList Try.prog ops Q (o :: rest) a w := by
  obtain ⟨i0, hi, hz0, hz1, hz2⟩ := info_parts Try.infoSlice
  obtain ⟨vs, h1, h2, h3⟩ := hown
  obtain ⟨au, cu, rfl⟩ := ownsRow_shape hu.1
  obtain ⟨v', w', hr, hx2, hgr, _⟩ := run_append_own (P := Try.prog) w base 33 o.type 22 i0 (.slice none 0 0) 1 24 Try.underlying33 hi hz0 hz1 hz2 rfl (by decide) v L.length vs h2 ⟨g, 0, none⟩ 1 1 [.slice au r.length cu] rfl
    (by
      intro j u hu
      match j, hu with
      | 0, hu =>
        simp at hu; subst hu
        rw [show (⟨g, 0, none⟩ : Addr).add 0 = ⟨g, 0, none⟩ from rfl, cell_of_row _ _ _ _ _ _ hg]; rfl)
    (by intro u hu; simp at hu; subst hu; rfl) (by unfold maxLen; omega) (by omega) hbase
  refine wpList_plain hgd fun K hK => ?_
  unfold Oper.wp execOp
  simp only [ho, resolve, invoke, builtin, Sem.run_bind, Sem.run_pure, Result.andThen_ok, List.map_toArray, List.map_cons, List.map_nil, hs, hx, hr]
  exact hK _ _ (h v' w' (Lists.snoc h1 h3 h2 hu hx2 hgr) hgr)
set_option maxRecDepth 100000 in
set_option maxHeartbeats 1000000 in
theorem refNumber_any (ao : Option Addr) (n cap : Nat) (l : List UInt8) (w : World) (hs : IsBytes w ao n cap l) (h4 : 4 ≤ n) :
    Calls Try.prog 31 #[.slice ao n cap] w fun e w' => e = .returned (.int .u32 (Fr.num4 l : Int)) ∧ Below w.heap.size w w' := by
  obtain ⟨hl, hnc, hcm, hat, _⟩ := hs
  unfold maxLen at hcm
  obtain ⟨b, off, rfl, hat2⟩ := hat (by intro h; rw [h] at hl; simp at hl; omega)
  have h0 : w.cell? ⟨b, off, none⟩ = some (.int .u8 ((l.getD 0 0).toNat : Int)) := hat2 0 (by omega)
  have h1 : w.cell? ⟨b, off + 1, none⟩ = some (.int .u8 ((l.getD 1 0).toNat : Int)) := hat2 1 (by omega)
  have h2 : w.cell? ⟨b, off + 2, none⟩ = some (.int .u8 ((l.getD 2 0).toNat : Int)) := hat2 2 (by omega)
  have h3 : w.cell? ⟨b, off + 3, none⟩ = some (.int .u8 ((l.getD 3 0).toNat : Int)) := hat2 3 (by omega)
  have hf := numK_four l (by omega)
  simp only [numK] at hf
  obtain ⟨c0, hc0⟩ : ∃ c, c = l.getD 0 0 := ⟨_, rfl⟩
  obtain ⟨c1, hc1⟩ : ∃ c, c = l.getD 1 0 := ⟨_, rfl⟩
  obtain ⟨c2, hc2⟩ : ∃ c, c = l.getD 2 0 := ⟨_, rfl⟩
  obtain ⟨c3, hc3⟩ : ∃ c, c = l.getD 3 0 := ⟨_, rfl⟩
  rw [← hc0] at h0 hf
  rw [← hc1] at h1 hf
  rw [← hc2] at h2 hf
  rw [← hc3] at h3 hf
  have b0 : c0.toNat < 256 := c0.toNat_lt
  have b1 : c1.toNat < 256 := c1.toNat_lt
  have b2 : c2.toNat < 256 := c2.toNat_lt
  have b3 : c3.toNat < 256 := c3.toNat_lt
  have hp : (4 : Int) ≤ (n : Int) := by omega
  have i1 : (1 : Int) < (n : Int) := by omega
  have i2 : (2 : Int) < (n : Int) := by omega
  have i3 : (3 : Int) < (n : Int) := by omega
  have i0 : (0 : Int) < (n : Int) := by omega
  have hor : bits .or .u32 (bits .or .u32 (bits .or .u32 (c0.toNat : Int) ((c1.toNat : Int) * 256)) ((c2.toNat : Int) * 65536)) ((c3.toNat : Int) * 16777216) = ((Fr.num4 l : Nat) : Int) := by
    have e1 : ((c1.toNat : Int) * 256) = ((c1.toNat * 256 : Nat) : Int) := by omega
    have e2 : ((c2.toNat : Int) * 65536) = ((c2.toNat * 65536 : Nat) : Int) := by omega
    have e3 : ((c3.toNat : Int) * 16777216) = ((c3.toNat * 16777216 : Nat) : Int) := by omega
    rw [e1, u32_or_nat _ _ (by omega) (by omega), show c1.toNat * 256 = c1.toNat * 2 ^ 8 from rfl, or_byte _ _ _ (by omega), e2, u32_or_nat _ _ (by omega) (by omega), show c2.toNat * 65536 = c2.toNat * 2 ^ 16 from rfl, or_byte _ _ _ (by omega), e3, u32_or_nat _ _ (by omega) (by omega), show c3.toNat * 16777216 = c3.toNat * 2 ^ 24 from rfl, or_byte _ _ _ (by omega), ← hf]
    congr 1
    omega
  have HOR := Lib.hid hor
  clear hor hf hc0 hc1 hc2 hc3 hat hat2
  go_enter Try.func31, Try.ntmps31
  go_wp2
  go_region
  go_wp2
  go_ret
  exact ⟨by rw [HOR.out]; rfl, (Below.refl _ _).drew⟩
end Go.Proofs.Ytfpjbkbfaaieiaa
