/- layer 16: Clone and All, with their room; OverTexts, walked -/
import Derived.Test.YtbgihfjagfbfgaaDoorMWOver
set_option linter.unusedSimpArgs false
set_option linter.unusedVariables false
namespace Go.Proofs.YtbgihfjagfbfgaaDoor
open Go.RowKit Go.Words
attribute [local go_sem] Oper.semAt_some
set_option maxRecDepth 100000 in
set_option maxHeartbeats 2000000 in
theorem CloneX_any (ao : Option Addr) (n cap : Nat) (L : List Wd) (w : World) (h : IsS w ao n cap L) (hn : n ≤ 100000) (hs : ∀ s ∈ L, s.length ≤ 1000) :
    Calls Tryd.prog 20 #[.slice ao n cap] w fun e w' => ∃ v, e = .returned v ∧ OwnS w' w.heap.size v L ∧ StrRow w' w.heap.size v ∧ Below w.heap.size w w' := by
  have q24 : ∀ (w : World) (a : Option Addr) (n c : Nat), (binOp .eql 26 (.slice a n c) (.slice none 0 0)).run Tryd.prog w = .ok (.bool a.isNone) w := fun w a n c => Lib.run_eql_slice_nil w _ _ a n c 0 0 Tryd.underlying26
  cases ao with
  | none =>
    obtain ⟨rfl, rfl⟩ := h.2.2.2.2 rfl
    obtain rfl : L = [] := List.eq_nil_of_length_eq_zero h.1
    clear h hs
    go_enter Tryd.func20, Tryd.ntmps20
    go_wp2_with fail
    go_ret
    exact ⟨_, rfl, OwnS.nil _ _, .inl ⟨0, 0, rfl, rfl, rfl⟩, Below.refl _ _⟩
  | some a =>
    obtain ⟨v', w', hr, ho, hst, hb⟩ := append_room w 26 w.heap.size n cap (some a) L (Nat.le_refl _) h hn hs
    have HF := Lib.hid (And.intro ho (And.intro hst hb))
    have HR := Lib.hid hr
    clear h hs ho hst hb hr
    go_enter Tryd.func20, Tryd.ntmps20
    go_wp2_with (at_builtin; refine wpList_append_run rfl _ _ rfl rfl rfl HR.out ?_)
    go_ret
    exact ⟨_, rfl, HF.out.1, HF.out.2.1, HF.out.2.2⟩
theorem kindS_short (k : Int) : ∀ s ∈ kindS k, s.length ≤ 1000 := fun s hs => by
  have h : (kindS k).all (fun s => decide (s.length ≤ 1000)) = true := by
    unfold kindS
    split
    · decide +kernel
    split
    · decide +kernel
    split
    · decide +kernel
    split
    · decide +kernel
    · decide
  exact of_decide_eq_true (List.all_eq_true.1 h s hs)
set_option maxRecDepth 100000 in
set_option maxHeartbeats 2000000 in
theorem AllX_any (k : Int) (w : World) (h : Tb w) : Calls Tryd.prog 13 #[.int .i64 k] w fun e w' => ∃ v, e = .returned v ∧ OwnS w' w.heap.size v (kindS k) ∧ StrRow w' w.heap.size v ∧ Below w.heap.size w w' := by
  have HO := Lib.hid (of_any k w h)
  have hl := kindS_len k
  have HSH := Lib.hid (kindS_short k)
  obtain ⟨S, hS⟩ : ∃ S, S = kindS k := ⟨_, rfl⟩
  rw [← hS] at hl HSH ⊢
  have HS : Hid (sortW (kindP k) = S) := Lib.hid (by rw [hS]; exact kindS_is k)
  clear h hS
  go_enter Tryd.func13, Tryd.ntmps13
  go_wp2_with fail
  refine HO.out.mono ?_
  rintro e w1 ⟨m1, m2, v, rfl, h1, h2, h3, hb⟩
  rw [HS.out] at h3
  have hfd2 := fieldT2 (.map m1) (.map m2) v w1
  obtain ⟨va, vc, hvv, hvi⟩ := h3.strs
  obtain ⟨vn, hvn⟩ : ∃ k', k' = S.length := ⟨_, rfl⟩
  rw [← hvn] at hvv hvi
  subst hvv
  have HB := Lib.hid hb
  have HC := Lib.hid (CloneX_any va vn vc S w1 hvi (by omega) HSH.out)
  clear h1 h2 h3 hb hvi hvn
  go_wp2_with fail
  refine HC.out.mono ?_
  rintro e w2 ⟨v2, rfl, ho, hst, hb2⟩
  have HO2 := Lib.hid (ho.base HB.out.size)
  have HST : Hid (StrRow w2 w.heap.size v2) := Lib.hid (hst.elim .inl (fun ⟨g, n, cap, cs, h1, h2, h3⟩ => .inr ⟨g, n, cap, cs, h1, Nat.le_trans HB.out.size h2, h3⟩))
  have HB2 := Lib.hid (HB.out.trans (hb2.mono HB.out.size))
  clear ho hb2 hst
  go_wp2_with fail
  go_ret
  exact ⟨_, rfl, HO2.out, HST.out, HB2.out⟩
theorem bs_plus (s : Wd) : bs s ++ { data := #[33] } = bs (s ++ [33]) := by
  apply ByteArray.ext
  simp [bs, ByteArray.data_append]
theorem grownBy_setCell {w w1 : World} {g off : Nat} {v : Value} (h : w.grownBy w1 (some g)) : w.grownBy (w1.setCell ⟨g, off, none⟩ v) (some g) :=
  ⟨h.os, h.tape, h.output, by simpa using h.size, fun k hk hne => by
    rw [Below.heap_setCell _ _ _ _ (by intro e; exact hne (by rw [e]))]; exact h.block k hk hne⟩
set_option maxRecDepth 100000 in
set_option maxHeartbeats 2000000 in
theorem OverTexts_any (base : Nat) (v : Value) (w : World) (h : StrRow w base v) : Calls Tryd.prog 16 #[v] w fun e w' => e = .returned (.tuple #[]) ∧ w.grownBy w' v.ownBlock := by
  rcases h with ⟨n, c, rfl, rfl, rfl⟩ | ⟨g, n, cap, cs, rfl, hbg, hg, hs, hcm, hnc, hall⟩
  · go_enter Tryd.func16, Tryd.ntmps16
    go_wp2_with fail
    go_loopw [3] (fun iv wr => iv = .int .i64 0 ∧ wr = w) (fun iv _ => 0)
    case atStart => exact ⟨rfl, rfl⟩
    case round =>
      obtain ⟨rfl, rfl⟩ := hrel
      go_wp2_with fail
      go_end0
      exact ⟨rfl, rfl, rfl, rfl, Nat.le_refl _, fun _ _ _ => rfl⟩
  · unfold maxLen at hcm
    have HC : Hid (∃ c2 : Array Value, c2.size = cap ∧ (∀ i, 0 ≤ i → i < cap → ∃ s : Wd, c2[i]? = some (sV s) ∧ s.length ≤ 1000) ∧ w.heap[g]? = some (.cells c2 9 (0, 0))) := ⟨cs, hs, fun i _ hi => hall i hi, hg⟩
    have h0 : (0 : Int) ≤ (cap : Int) := by omega
    clear hg hs hall
    go_enter Tryd.func16, Tryd.ntmps16
    go_wp2_with fail
    go_loopw [3] (fun i wr => ∃ k : Nat, k ≤ cap ∧ i = .int .i64 k ∧ Hid (∃ c2 : Array Value, c2.size = cap ∧ (∀ i, k ≤ i → i < cap → ∃ s : Wd, c2[i]? = some (sV s) ∧ s.length ≤ 1000) ∧ wr.heap[g]? = some (.cells c2 9 (0, 0))) ∧ Hid (w.grownBy wr (some g))) (fun i _ => cap - (intOf i).toNat)
    case atStart => exact ⟨0, by omega, rfl, HC, rfl, rfl, rfl, Nat.le_refl _, fun _ _ _ => rfl⟩
    case round =>
      obtain ⟨k, hk, rfl, hbk, hgr⟩ := hrel
      by_cases hlt : k < cap
      · obtain ⟨c2, hs2, hok2, hg2⟩ := hbk.out
        obtain ⟨s, hsc, hsl⟩ := hok2 k (Nat.le_refl _) hlt
        have hcell : wr.cell? ⟨g, k, none⟩ = some (.string (bs s)) := by
          rw [cell_of_row _ _ _ _ _ _ hg2, hsc]
        have hf : wr.frozen? ⟨g, k, none⟩ = false := frozen_of_row _ _ _ _ _ hg2
        have hz : (bs s).size + 1 ≤ 9223372036854775807 := by
          have : (bs s).size = s.length := by simp [bs, ByteArray.size]
          omega
        have HG := Lib.hid hg2
        have HS := Lib.hid hs2
        have HO := Lib.hid hok2
        clear hg2 hs2 hok2 hsc
        go_wp2_with fail
        go_roundw
        case rel =>
          refine ⟨k + 1, by omega, by go_num, ?_, grownBy_setCell hgr.out⟩
          refine ⟨_, ?_, ?_, heap_setCell_same _ _ _ _ _ _ HG.out⟩
          · simp [HS.out]
          · intro i h1 h2
            obtain ⟨s', hs', hl'⟩ := HO.out i (by omega) h2
            refine ⟨s', ?_, hl'⟩
            rw [Array.getElem?_setIfInBounds_ne (by omega)]
            exact hs'
        case measure => simp [intOf]; omega
      · obtain rfl : k = cap := by omega
        go_wp2_with fail
        go_end0
        exact ⟨rfl, hgr.out⟩
end Go.Proofs.YtbgihfjagfbfgaaDoor
