/- the reference's disk: Names -/
import Derived.Test.YtmpjjkfbojhfoaaRPut
import Derived.Test.YtmpjjkfbojhfoaaDKnown
namespace Go.Proofs.Ytmpjjkfbojhfoaa
open Go.RowKit
set_option linter.unusedSectionVars false
variable [Zone]
theorem Try.infoString : (Try.prog.info? 9).map (fun i => (i.zero, i.size, i.bytes)) = some (some (.string ⟨#[]⟩), 1, 16) := by kernel_rfl
/-- own strings. -/
def OwnT (w : World) (base : Nat) (v : Value) (L : List ByteArray) : Prop := w.ownsRow base 9 1 v L.length (L.map Value.string)
theorem OwnT.nil (w : World) (base : Nat) : OwnT w base (.slice none 0 0) [] := World.ownsRow_nil _ _ _ _
theorem OwnT.lt {w : World} {base : Nat} {v : Value} {L : List ByteArray} (h : OwnT w base v L) (g : Nat) (hg : v.ownBlock = some g) : base ≤ g ∧ g < w.heap.size := World.ownsRow.lt h g hg
theorem OwnT.later {w w' : World} {base : Nat} {v : Value} {L : List ByteArray} (h : OwnT w base v L) (hb : Below w.heap.size w w') : OwnT w' base v L := ownsRow_move h fun g hg => hb.block g (h.lt g hg).2
theorem OwnT.texts {w : World} {base : Nat} {v : Value} {L : List ByteArray} (h : OwnT w base v L) : ∃ a cap, v = .slice a L.length cap ∧ IsTexts w a L.length cap L := by
  rcases h.2 with ⟨rfl, h0⟩ | ⟨g, cap, cur, rfl, hb, hg, hn, hm, hs, ht⟩
  · exact ⟨none, 0, by rw [h0], rfl, by omega, by unfold maxLen; omega, fun hp => absurd hp (by omega)⟩
  · refine ⟨_, cap, rfl, rfl, hn, hm, fun _ => ⟨g, 0, rfl, fun i hi => ?_⟩⟩
    have hc := h.cells (g := g) rfl i (.string L[i]) (by rw [List.getElem?_map, List.getElem?_eq_getElem hi]; rfl)
    have he : (⟨g, 0, none⟩ : Addr).add i = ⟨g, 0 + i, none⟩ := by unfold Addr.add; split <;> simp_all
    rw [he] at hc
    rw [hc, List.getD_eq_getElem?_getD, List.getElem?_eq_getElem hi]
    rfl
theorem run_append_text {w : World} (ty base : Nat) (v : Value) (L : List ByteArray) (hown : OwnT w base v L) (g c : Nat) (x : ByteArray) (hx : w.cell? ⟨g, 0, none⟩ = some (.string x)) (hnm : L.length ≤ 1000000) (hbase : base ≤ w.heap.size) :
    ∃ v' w', (Builtin.append_ #[36, 36] ty #[v, .slice (some ⟨g, 0, none⟩) 1 c]).run Try.prog w = .ok v' w' ∧ OwnT w' base v' (L ++ [x]) ∧ w.grownBy w' v.ownBlock := by
  obtain ⟨i0, hi, hz0, hz1, hz2⟩ := info_parts Try.infoString
  obtain ⟨v', w', hr, h2, h3, _⟩ := run_append_own (P := Try.prog) w base 36 ty _ i0 (.string ⟨#[]⟩) 1 16 Try.underlying36 hi hz0 hz1 hz2 rfl (by decide) v _ _ hown ⟨g, 0, none⟩ 1 c [.string x] rfl
    (fun j y hy => by
      cases j with
      | zero => simp at hy; subst hy; have : (⟨g, 0, none⟩ : Addr).add 0 = ⟨g, 0, none⟩ := by simp [Addr.add]
                rw [this]; exact hx
      | succ j => simp at hy)
    (fun y hy => by simp at hy; subst hy; rfl) (Nat.le_trans (Nat.add_le_add_right hnm 1) (by unfold maxLen; omega)) (by omega) hbase
  refine ⟨v', w', hr, ?_, h3⟩
  unfold OwnT
  rw [List.map_append, List.length_append]
  exact h2
theorem wpList_append_text {w : World} {ops : Array Oper} {rest : List Oper} {o : Oper} {a : Act} {Q : Exit → Act → World → Prop} (hgd : o.guard = none) (s x : Operand)
    (ho : o.op = .call { callee := .builtin .append, args := #[s, x], argTypes := #[36, 36] })
    (base : Nat) (v : Value) (L : List ByteArray) (hs : a.eval s = v) (hown : OwnT w base v L) (g c : Nat) (y : ByteArray) (hx : a.eval x = .slice (some ⟨g, 0, none⟩) 1 c) (hy : w.cell? ⟨g, 0, none⟩ = some (.string y)) (hnm : L.length ≤ 1000000) (hbase : base ≤ w.heap.size)
    (h : ∀ v' w', OwnT w' base v' (L ++ [y]) → w.grownBy w' v.ownBlock → wpList Try.prog ops Q rest (a.put o.dst v') w') : wpList Try.prog ops Q (o :: rest) a w := by
  obtain ⟨v', w', hr, h2, h3⟩ := run_append_text o.type base v L hown g c y hy hnm hbase
  refine wpList_plain hgd fun K hK => ?_
  unfold Oper.wp execOp
  simp only [ho, resolve, invoke, builtin, Sem.run_bind, Sem.run_pure, Result.andThen_ok, List.map_toArray, List.map_cons, List.map_nil, hs, hx, hr]
  exact hK _ _ (h v' w' h2 h3)
set_option maxRecDepth 100000 in
theorem rNames_any (r base : Nat) (R : List FileV) (N : Int) (fz : Bool) (lf : Int) (out : Bool) (w : World) (hR : R.length ≤ 1000) (h : RefAt w r base R N fz lf out) :
    Calls Try.prog 33 #[.pointer (some ⟨r, 0, none⟩)] w fun e w' => ∃ v, e = .returned v ∧ OwnT w' w.heap.size v (R.map (·.1)) ∧ Below w.heap.size w w' := by
  have H := Lib.hid h
  obtain ⟨ao, cap, hr, hcap, hcm, _⟩ := h.file
  obtain ⟨n, hn⟩ : ∃ n, n = R.length := ⟨_, rfl⟩
  have r0 : w.cell? ⟨r, 0, none⟩ = some (.slice ao n cap) := by rw [hn]; exact hr.cells.1
  have hrl := Lib.hid hr.lt
  rw [← hn] at hcap
  unfold maxLen at hcm
  have HN := Lib.hid (And.intro hn hR)
  have hn3 : n ≤ 1000 := by omega
  clear h hr hn hR
  go_enter Try.func33, Try.ntmps33
  go_wp2_with fail
  go_loopw [3, 4] (fun sv i wr => ∃ k : Nat, k ≤ n ∧ i = .int .i64 k ∧ Hid (OwnT wr w.heap.size sv ((R.map (·.1)).take k)) ∧ Hid (Below w.heap.size w wr)) (fun _ i _ => n - (intOf i).toNat)
  case atStart => exact ⟨0, by omega, rfl, Lib.hid (OwnT.nil _ _), Lib.hid (Below.refl _ _)⟩
  case round =>
    obtain ⟨k, hk, rfl, hown, hbl⟩ := hrel
    have r0' : wr.cell? ⟨r, 0, none⟩ = some (.slice ao n cap) := (hbl.out.cell (p := ⟨r, 0, none⟩) hrl.out).trans r0
    by_cases hlt : k < n
    · have hi0 : (0 : Int) ≤ (k : Int) := by omega
      have hi1 : (k : Int) < (n : Int) := by omega
      obtain ⟨ao', cap', hr', _, _, hcell⟩ := (H.out.later hbl.out).file
      obtain ⟨b, off, sa, sn, sc, al, m, capl, e, g0, _, _, _, _⟩ := hcell k (by rw [← HN.out.1]; exact hlt)
      have e2 : ao' = ao := by
        have := hr'.cells.1
        rw [r0'] at this
        injection this with this
        injection this with this _
        exact this.symm
      rw [e2] at e
      subst e
      obtain ⟨x, hx⟩ : ∃ x, x = (R.getD k f0).1 := ⟨_, rfl⟩
      rw [← hx] at g0
      have HXX := Lib.hid hx
      obtain ⟨av, cv, hv, _⟩ := hown.out.texts
      have hlen : ((R.map (·.1)).take k).length = k := by rw [List.length_take, List.length_map, ← HN.out.1]; omega
      rw [hlen] at hv
      subst hv
      have HLEN := Lib.hid hlen
      clear hcell hr' hx hlen e2
      go_wp2_with (at_builtin; refine wpList_append_text rfl _ _ rfl w.heap.size (.slice av k cv) ((R.map (·.1)).take k) rfl (hown.out.later ((Below.refl _ wr).alloc (Nat.le_refl _) _)) wr.heap.size 1 x rfl (cell_of_row _ _ _ _ _ _ (heap_alloc_new _ _)) (by rw [HLEN.out]; omega) (Nat.le_trans hbl.out.size (by simp)) ?_; intro v2 w2 hown2 hg2; have H2 := Lib.hid (And.intro hown2 ((hbl.out.trans (((Below.refl _ wr).alloc (Nat.le_refl _) _).mono hbl.out.size)).grown hg2 (Nat.le_trans hbl.out.size (by simp)) (fun g hg => (hown.out.lt g hg).1))); clear hown2 hg2)
      go_roundw
      case rel =>
        refine ⟨k + 1, by omega, by go_num, Lib.hid ?_, Lib.hid H2.out.2⟩
        have : (R.map (·.1)).take (k + 1) = (R.map (·.1)).take k ++ [x] := by
          have hkl : k < (R.map (·.1)).length := by rw [List.length_map, ← HN.out.1]; exact hlt
          rw [List.take_succ_eq_append_getElem hkl, HXX.out, List.getElem_map, List.getD_eq_getElem?_getD, List.getElem?_eq_getElem (by simpa using hkl)]
          rfl
        rw [this]
        exact H2.out.1
      case measure => simp [intOf]; omega
    · obtain rfl : k = n := by omega
      have hi1 : ¬ (k : Int) < (k : Int) := by omega
      go_wp2_with fail
      go_ret
      have := hown.out
      rw [List.take_of_length_le (by rw [List.length_map, ← HN.out.1]; exact Nat.le_refl _)] at this
      exact ⟨_, rfl, this, hbl.out⟩
end Go.Proofs.Ytmpjjkfbojhfoaa
