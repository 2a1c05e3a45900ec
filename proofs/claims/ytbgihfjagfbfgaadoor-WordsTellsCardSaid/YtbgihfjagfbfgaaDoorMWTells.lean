/- layer 16: WordsTells -/
import Derived.Test.YtbgihfjagfbfgaaDoorMWOver2
set_option linter.unusedSimpArgs false
set_option linter.unusedVariables false
namespace Go.Proofs.YtbgihfjagfbfgaaDoor
open Go.RowKit Go.Words
attribute [local go_sem] Oper.semAt_some
theorem StrRow.lt {w : World} {base : Nat} {v : Value} (h : StrRow w base v) : ∀ k, v.ownBlock = some k → base ≤ k ∧ k < w.heap.size := by
  rcases h with ⟨n, c, rfl, _, _⟩ | ⟨g, n, cap, cs, rfl, h2, h3, h4⟩
  · intro k hk; simp [Value.ownBlock] at hk
  · intro k hk
    simp only [Value.ownBlock, Option.some.injEq] at hk
    subst hk
    exact ⟨h2, heap_lt2 h3⟩
theorem OwnS.grown {w w' : World} {base : Nat} {v : Value} {L : List Wd} {r : Option Nat} (h : OwnS w base v L) (hg : w.grownBy w' r) (hr : ∀ k, r = some k → k < base) : OwnS w' base v L :=
  ownsRow_move h fun g hb => hg.block g (h.lt g hb).2 (fun e => by have := hr g e.symm; have := (h.lt g hb).1; omega)
set_option maxRecDepth 100000 in
set_option maxHeartbeats 8000000 in
theorem WordsTells_any (k : Int) (l : Wd) (w : World) (h : Tb w) : Calls Tryd.prog 4 #[.int .i64 k, sV l] w fun e w' => e = .returned (.bool true) ∧ Below w.heap.size w w' := by
  have hsz := bs_size l
  by_cases hlen : 1000 < l.length
  · have h1 : (1000 : Int) < ((bs l).size : Int) := by omega
    have h2 : 1000 < (bs l).size := by omega
    clear h
    go_enter Tryd.func4, Tryd.ntmps4
    go_wp2_with fail
    go_ret
    exact ⟨rfl, Below.refl _ _⟩
  have h1 : ¬ (1000 : Int) < ((bs l).size : Int) := by omega
  have h2 : ¬ 1000 < (bs l).size := by omega
  clear hlen hsz
  obtain ⟨a, ha⟩ : ∃ a, a = (firstS (kindP k) l).getD [] := ⟨_, rfl⟩
  obtain ⟨ab, hab⟩ : ∃ a, a = (firstS (kindP k) l).isSome := ⟨_, rfl⟩
  obtain ⟨c, hc⟩ : ∃ a, a = (firstL (kindP k) l).getD [] := ⟨_, rfl⟩
  obtain ⟨cb, hcb⟩ : ∃ a, a = (firstL (kindP k) l).isSome := ⟨_, rfl⟩
  have HT := Lib.hid h
  have HS : Hid (∀ (wX : World), Tb wX → Calls Tryd.prog 9 #[.int .i64 k, sV l] wX fun e w' => e = .returned (.tuple #[sV a, .bool ab]) ∧ Below wX.heap.size wX w') := Lib.hid (fun wX hT => by
    have := Short_any k l wX hT
    rw [short_is] at this
    unfold foundV at this
    rw [← ha, ← hab] at this
    exact this)
  have HL : Hid (∀ (wX : World), Tb wX → Calls Tryd.prog 10 #[.int .i64 k, sV l] wX fun e w' => e = .returned (.tuple #[sV c, .bool cb]) ∧ Below wX.heap.size wX w') := Lib.hid (fun wX hT => by
    have := Long_any k l wX hT
    rw [long_is] at this
    unfold foundV at this
    rw [← hc, ← hcb] at this
    exact this)
  have HRS : Hid (∀ (wX : World), Calls Tryd.prog 11 #[.int .i64 k, sV l] wX fun e w' => e = .returned (.tuple #[sV a, .bool ab]) ∧ Below wX.heap.size wX w') := Lib.hid (fun wX => by
    have := rShort_any k l wX
    unfold foundV at this
    rw [← ha, ← hab] at this
    exact this)
  have HRL : Hid (∀ (wX : World), Calls Tryd.prog 12 #[.int .i64 k, sV l] wX fun e w' => e = .returned (.tuple #[sV c, .bool cb]) ∧ Below wX.heap.size wX w') := Lib.hid (fun wX => by
    have := rLong_any k l wX
    unfold foundV at this
    rw [← hc, ← hcb] at this
    exact this)
  have q1 : ((bs a).toList == (bs a).toList) = true := (bs_eq _ _).trans (decide_eq_true rfl)
  have q2 : ((bs c).toList == (bs c).toList) = true := (bs_eq _ _).trans (decide_eq_true rfl)
  have q3 : (ab == ab) = true := by simp
  have q4 : (cb == cb) = true := by simp
  obtain ⟨S, hS⟩ : ∃ S, S = kindS k := ⟨_, rfl⟩
  have HA : Hid (∀ (wX : World), Tb wX → Calls Tryd.prog 13 #[.int .i64 k] wX fun e w' => ∃ v, e = .returned v ∧ OwnS w' wX.heap.size v S ∧ StrRow w' wX.heap.size v ∧ Below wX.heap.size wX w') := Lib.hid (fun wX hT => by
    rw [hS]
    exact AllX_any k wX hT)
  have HRA : Hid (∀ (wX : World), Calls Tryd.prog 14 #[.int .i64 k] wX fun e w' => ∃ v, e = .returned v ∧ OwnS w' wX.heap.size v S ∧ Below wX.heap.size wX w') := Lib.hid (fun wX => by
    rw [hS]
    exact rAll_any k wX)
  clear ha hab hc hcb h hS
  go_enter Tryd.func4, Tryd.ntmps4
  go_wp2_with fail
  refine (HS.out w HT.out).mono ?_
  rintro e w2 ⟨rfl, hb2⟩
  have HT2 := Lib.hid (HT.out.later hb2)
  have HB2 := Lib.hid hb2
  clear hb2
  go_wp2_with fail
  refine (HRS.out w2).mono ?_
  rintro e w3 ⟨rfl, hb3⟩
  have HT3 := Lib.hid (HT2.out.later hb3)
  have HB3 := Lib.hid (HB2.out.trans (hb3.mono HB2.out.size))
  clear hb3 HB2 HT2
  go_wp2_with fail
  refine (HL.out w3 HT3.out).mono ?_
  rintro e w4 ⟨rfl, hb4⟩
  have HT4 := Lib.hid (HT3.out.later hb4)
  have HB4 := Lib.hid (HB3.out.trans (hb4.mono HB3.out.size))
  clear hb4 HB3 HT3
  go_wp2_with fail
  refine (HRL.out w4).mono ?_
  rintro e w5 ⟨rfl, hb5⟩
  have HT5 := Lib.hid (HT4.out.later hb5)
  have HB5 := Lib.hid (HB4.out.trans (hb5.mono HB4.out.size))
  clear hb5 HB4 HT4
  go_wp2_with fail
  refine (HA.out w5 HT5.out).mono ?_
  rintro e w6 ⟨v, rfl, ho, hst, hb6⟩
  have HT6 := Lib.hid (HT5.out.later hb6)
  have HB6 := Lib.hid (HB5.out.trans (hb6.mono HB5.out.size))
  have HO6 := Lib.hid (ho.base HB5.out.size)
  have HR6 : Hid (StrRow w6 w.heap.size v) := Lib.hid (hst.elim .inl (fun ⟨g, n, cap, cs, h1, h2, h3⟩ => .inr ⟨g, n, cap, cs, h1, Nat.le_trans HB5.out.size h2, h3⟩))
  clear hb6 HB5 HT5 ho hst
  go_wp2_with fail
  refine (HRA.out w6).mono ?_
  rintro e w7 ⟨u, rfl, ho, hb7⟩
  have HT7 := Lib.hid (HT6.out.later hb7)
  have HB7 := Lib.hid (HB6.out.trans (hb7.mono HB6.out.size))
  have HO7 := Lib.hid (HO6.out.later hb7)
  have HR7 := Lib.hid (HR6.out.later hb7)
  have HU7 := Lib.hid ho
  have HLT : Hid (∀ k, v.ownBlock = some k → w.heap.size ≤ k ∧ k < w6.heap.size) := Lib.hid HR6.out.lt
  have HSZ := Lib.hid hb7.size
  clear hb7 HT6 HR6 HO6 ho HB6
  go_wp2_with fail
  have HSA : Hid (∀ (x y : Value) (b1 b2 : Nat) (wX : World), OwnS wX b1 x S → OwnS wX b2 y S → Calls Tryd.prog 15 #[x, y] wX fun e w' => e = .returned (.bool true) ∧ Below wX.heap.size wX w') := Lib.hid (fun x y b1 b2 wX e1 e2 => by
    obtain ⟨ao, ac, rfl, i1⟩ := e1.strs
    obtain ⟨bo, bc, rfl, i2⟩ := e2.strs
    have := SameTexts_any ao bo _ _ ac bc S S wX i1 i2
    rw [decide_eq_true rfl] at this
    exact this)
  refine (HSA.out v u _ _ w7 HO7.out HU7.out).mono ?_
  rintro e w8 ⟨rfl, hb8⟩
  have HT8 := Lib.hid (HT7.out.later hb8)
  have HB8 := Lib.hid (HB7.out.trans (hb8.mono HB7.out.size))
  have HR8 := Lib.hid (HR7.out.later hb8)
  have HU8 := Lib.hid (HU7.out.later hb8)
  clear hb8 HT7 HR7 HO7 HB7 HU7
  go_wp2_with fail
  refine (OverTexts_any _ v w8 HR8.out).mono ?_
  rintro e w9 ⟨rfl, hg9⟩
  have hb9 : Below w.heap.size w w9 := HB8.out.grown hg9 HB8.out.size (fun k hk => (HLT.out k hk).1)
  have HB9 := Lib.hid hb9
  have HT9 := Lib.hid (HT.out.later hb9)
  have HU9 := Lib.hid (HU8.out.grown hg9 (fun k hk => (HLT.out k hk).2))
  clear hb9 hg9 HB8 HT8 HU8 HR8 HLT
  go_wp2_with fail
  refine (HA.out w9 HT9.out).mono ?_
  rintro e w10 ⟨v2, rfl, ho, _, hb10⟩
  have HT10 := Lib.hid (HT9.out.later hb10)
  have HB10 := Lib.hid (HB9.out.trans (hb10.mono HB9.out.size))
  have HU10 := Lib.hid (HU9.out.later hb10)
  have HO10 := Lib.hid ho
  clear hb10 ho HT9 HB9 HU9
  go_wp2_with fail
  refine (HSA.out v2 u _ _ w10 HO10.out HU10.out).mono ?_
  rintro e w11 ⟨rfl, hb11⟩
  have HT11 := Lib.hid (HT10.out.later hb11)
  have HB11 := Lib.hid (HB10.out.trans (hb11.mono HB10.out.size))
  clear hb11 HT10 HB10 HO10 HU10
  go_wp2_with fail
  refine (awake_any w11 HT11.out).mono ?_
  rintro e w12 ⟨rfl, hb12⟩
  have HB12 := Lib.hid (HB11.out.trans (hb12.mono HB11.out.size))
  clear hb12 HB11 HT11
  go_wp2_with fail
  go_ret
  exact ⟨rfl, HB12.out⟩
end Go.Proofs.YtbgihfjagfbfgaaDoor
