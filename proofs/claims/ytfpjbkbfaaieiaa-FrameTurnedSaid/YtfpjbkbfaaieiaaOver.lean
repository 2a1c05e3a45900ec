/- apportionkit.OverBytes -/
import Derived.Test.YtfpjbkbfaaieiaaKit
namespace Go.Proofs.Ytfpjbkbfaaieiaa
open Go.RowKit
theorem grownBy_setCell {w w1 : World} {g off : Nat} {v : Value} (h : w.grownBy w1 (some g)) : w.grownBy (w1.setCell ⟨g, off, none⟩ v) (some g) :=
  ⟨h.os, h.tape, h.output, by simpa using h.size, fun k hk hne => by
    rw [Below.heap_setCell _ _ _ _ (by intro e; exact hne (by rw [e]))]; exact h.block k hk hne⟩
theorem xor_u8 (c d : UInt8) : bits .xor .u8 (c.toNat : Int) (d.toNat : Int) = (((c ^^^ d).toNat : Nat) : Int) := by
  rw [u8_xor_nat _ _ c.toNat_lt d.toNat_lt, UInt8.toNat_xor]
theorem u8s_of_all : ∀ vs : List Value, (∀ u ∈ vs, isU8 u) → ∃ l, vs = u8s l
  | [], _ => ⟨[], rfl⟩
  | v :: vs, h => by
    obtain ⟨c, hc⟩ := h v (by simp)
    obtain ⟨l, hl⟩ := u8s_of_all vs (fun u hu => h u (by simp [hu]))
    exact ⟨c :: l, by rw [hc, hl]; rfl⟩
/-- what a step that keeps block g a row of bytes of its length leaves of an owned slice of bytes: one of as many. -/
theorem OwnB.over {w w' : World} {g cap base : Nat} {c1 c2 : Array Value} {u : Value} {l : List UInt8} (h : OwnB w base u l) (h1 : w.heap[g]? = some (.cells c1 5 (0, 0))) (hs1 : c1.size = cap) (h2 : w'.heap[g]? = some (.cells c2 5 (0, 0))) (hs2 : c2.size = cap) (hok : ∀ u, u ∈ c2 → isU8 u)
    (hg : w.grownBy w' (some g)) : ∃ l3 : List UInt8, l3.length = l.length ∧ OwnB w' base u l3 := by
  by_cases hu : u.ownBlock = some g
  · rcases h.1.2 with ⟨rfl, h0⟩ | ⟨g', cap', cur, rfl, hb, hg', hn, hm, hs, ht⟩
    · simp [Value.ownBlock] at hu
    · simp only [Value.ownBlock, Option.some.injEq] at hu
      subst hu
      rw [h1] at hg'
      injection hg' with hg'
      injection hg' with hg' _ _
      subst hg'
      have hcc : cap' = cap := by omega
      subst hcc
      obtain ⟨l3, hl3⟩ := u8s_of_all (c2.toList.take (l.length * 1)) (fun u hu => hok u (by simpa using List.mem_of_mem_take hu))
      have hlen : l3.length = l.length := by
        have := congrArg List.length hl3
        rw [List.length_take, u8s_length] at this
        simp at this
        omega
      refine ⟨l3, hlen, ⟨by simp [u8s], .inr ⟨g', cap', c2, by rw [hlen], hb, h2, by omega, hm, by omega, by rw [hlen]; exact hl3⟩⟩, ?_⟩
      intro g2 c t f e1 e2 u hu
      simp only [Value.ownBlock, Option.some.injEq] at e1
      subst e1
      rw [h2] at e2
      injection e2 with e2
      injection e2 with e2 _ _
      subst e2
      exact hok u hu
  · exact ⟨l, rfl, h.kept hg (fun k hk e => hu (by rw [hk, e]))⟩
set_option maxRecDepth 100000 in
set_option maxHeartbeats 400000 in
theorem OverBytes_strong (v : Value) (base : Nat) (l : List UInt8) (w : World) (h : OwnB w base v l) :
    Calls Try.prog 17 #[v] w fun e w' => e = .returned (.tuple #[]) ∧ w.grownBy w' v.ownBlock ∧ (∀ base2 u l2, OwnB w base2 u l2 → ∃ l3 : List UInt8, l3.length = l2.length ∧ OwnB w' base2 u l3) := by
  obtain ⟨hrow, hall⟩ := h
  rcases hrow.2 with ⟨rfl, h0⟩ | ⟨g, cap, cur, rfl, hb, hg, hn, hm, hs, ht⟩
  · go_enter Try.func17, Try.ntmps17
    go_wp2
    refine wp_loop_rounds 1 ?_
    rw [rounds_succ]
    go_wp2
    go_end0
    exact ⟨rfl, ⟨rfl, rfl, rfl, Nat.le_refl _, fun _ _ _ => rfl⟩, fun _ _ l2 h => ⟨l2, rfl, h⟩⟩
  · have hok := hall g cur _ _ rfl hg
    have hs : cur.size = cap := by omega
    unfold maxLen at hm
    have HOK : Hid (∃ c2 : Array Value, c2.size = cap ∧ (∀ u, u ∈ c2 → isU8 u) ∧ w.heap[g]? = some (.cells c2 5 (0, 0))) := ⟨cur, hs, hok, hg⟩
    have h0 : (0 : Int) ≤ (cap : Int) := by omega
    have HG0 := Lib.hid hg
    have HS0 := Lib.hid hs
    clear hok hg hs ht hrow hall
    go_enter Try.func17, Try.ntmps17
    go_wp2
    go_loopw [3] (fun i wr => ∃ k : Nat, k ≤ cap ∧ i = .int .i64 k ∧ Hid (∃ c2 : Array Value, c2.size = cap ∧ (∀ u, u ∈ c2 → isU8 u) ∧ wr.heap[g]? = some (.cells c2 5 (0, 0))) ∧ Hid (w.grownBy wr (some g))) (fun i _ => cap - (intOf i).toNat)
    case atStart => exact ⟨0, by omega, rfl, HOK, rfl, rfl, rfl, Nat.le_refl _, fun _ _ _ => rfl⟩
    case round =>
      obtain ⟨k, hk, rfl, hbk, hgr⟩ := hrel
      by_cases hlt : k < cap
      · obtain ⟨c2, hs2, hok2, hg2⟩ := hbk.out
        obtain ⟨c, hc⟩ := hok2 (c2[k]'(by omega)) (Array.getElem_mem _)
        have hcell : wr.cell? ⟨g, k, none⟩ = some (.int .u8 (c.toNat : Int)) := by
          rw [cell_of_row _ _ _ _ _ _ hg2, Array.getElem?_eq_getElem (by omega), hc]
        have hf : wr.frozen? ⟨g, k, none⟩ = false := frozen_of_row _ _ _ _ _ hg2
        have hx := xor_u8 c 90
        have HX : Hid (bits .xor .u8 (c.toNat : Int) 90 = (((c ^^^ 90).toNat : Nat) : Int)) := hx
        have HG := Lib.hid hg2
        have HS := Lib.hid hs2
        have HO := Lib.hid hok2
        have hcl := c.toNat_lt
        clear hx hg2 hs2 hok2 hc
        go_wp2
        go_roundw
        case rel =>
          refine ⟨k + 1, by omega, by go_num, ?_, grownBy_setCell hgr.out⟩
          refine ⟨_, ?_, ?_, heap_setCell_same _ _ _ _ _ _ HG.out⟩
          · simp [HS.out]
          · intro u hu
            rcases Array.mem_or_eq_of_mem_setIfInBounds hu with h | h
            · exact HO.out u h
            · exact ⟨c ^^^ 90, by rw [h, HX.out]⟩
        case measure => simp [intOf]; omega
      · obtain rfl : k = cap := by omega
        go_wp2
        go_end0
        obtain ⟨c2, hs2, hok2, hg2⟩ := hbk.out
        exact ⟨rfl, hgr.out, fun _ _ _ h => h.over HG0.out HS0.out hg2 hs2 hok2 hgr.out⟩
theorem OverBytes_any (v : Value) (base : Nat) (l : List UInt8) (w : World) (h : OwnB w base v l) :
    Calls Try.prog 17 #[v] w fun e w' => e = .returned (.tuple #[]) ∧ w.grownBy w' v.ownBlock :=
  (OverBytes_strong v base l w h).mono fun _ _ h => ⟨h.1, h.2.1⟩
end Go.Proofs.Ytfpjbkbfaaieiaa
