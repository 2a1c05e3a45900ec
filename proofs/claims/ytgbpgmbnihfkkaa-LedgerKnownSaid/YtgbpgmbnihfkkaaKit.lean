/- lists of slices of bytes that the call itself made -/
import Derived.RangeFuncNested
import Derived.Test.YtgbpgmbnihfkkaaSlices
namespace Go.Proofs.Ytgbpgmbnihfkkaa
open Go.RowKit
theorem Try.infoSlice : (Try.prog.info? 30).map (fun i => (i.zero, i.size, i.bytes)) = some (some (.slice none 0 0), 1, 24) := by kernel_rfl
/-- the slice value v owns slices that own the bytes of L, one behind the other. -/
def Lists (w : World) (base : Nat) (v : Value) (L : List (List UInt8)) : Prop :=
  ∃ vs : List Value, vs.length = L.length ∧ (w.ownsRow base 30 1 v L.length vs ∧ AllCells w v (fun u => plainV u = true)) ∧
    ∀ i, i < L.length → ∃ u, vs[i]? = some u ∧ OwnB w base u (L.getD i [])
theorem Lists.nil (w : World) (base : Nat) : Lists w base (.slice none 0 0) [] := ⟨[], rfl, ⟨World.ownsRow_nil _ _ _ _, fun g c t f hg => by simp [Value.ownBlock] at hg⟩, fun i h => absurd h (by simp)⟩
theorem Lists.later {w w' : World} {base : Nat} {v : Value} {L : List (List UInt8)} (h : Lists w base v L) (hb : Below w.heap.size w w') : Lists w' base v L := by
  obtain ⟨vs, h1, ⟨h2, h2a⟩, h3⟩ := h
  refine ⟨vs, h1, ⟨ownsRow_later h2 hb, h2a.move (fun g hg => hb.block g (h2.lt g hg).2)⟩, fun i hi => ?_⟩
  obtain ⟨u, hu, ho⟩ := h3 i hi
  exact ⟨u, hu, ho.later hb⟩
theorem Lists.base {w : World} {base base' : Nat} {v : Value} {L : List (List UInt8)} (h : Lists w base v L) (hb : base' ≤ base) : Lists w base' v L := by
  obtain ⟨vs, h1, ⟨h2, h2a⟩, h3⟩ := h
  refine ⟨vs, h1, ⟨ownsRow_base h2 hb, h2a⟩, fun i hi => ?_⟩
  obtain ⟨x, hx, ho⟩ := h3 i hi
  exact ⟨x, hx, ho.base hb⟩
/-- a step that turns no block with cells of these two types. -/
theorem Lists.move {w w' : World} {base : Nat} {v : Value} {L : List (List UInt8)} (h : Lists w base v L)
    (hb : ∀ (g : Nat) (c : Array Value) (t : Nat), w.heap[g]? = some (Obj.cells c t (0, 0)) → t = 30 ∨ t = 5 → w'.heap[g]? = w.heap[g]?) : Lists w' base v L := by
  have key : ∀ {e s n : Nat} {u : Value} {xs : List Value}, w.ownsRow base e s u n xs → e = 30 ∨ e = 5 → ∀ g, u.ownBlock = some g → w'.heap[g]? = w.heap[g]? := by
    intro e s n u xs hu he g hg
    rcases hu.2 with ⟨rfl, _⟩ | ⟨g', cap, cur, rfl, _, hg', _⟩
    · simp [Value.ownBlock] at hg
    · simp only [Value.ownBlock, Option.some.injEq] at hg
      subst hg
      exact hb _ _ _ hg' he
  obtain ⟨vs, h1, ⟨h2, h2a⟩, h3⟩ := h
  refine ⟨vs, h1, ⟨ownsRow_move h2 (key h2 (.inl rfl)), h2a.move (key h2 (.inl rfl))⟩, fun i hi => ?_⟩
  obtain ⟨u, hu, ho⟩ := h3 i hi
  exact ⟨u, hu, ho.move (key ho.1 (.inr rfl))⟩
theorem Lists.setCell {w : World} {base b off t : Nat} {v u : Value} {L : List (List UInt8)} {c : Array Value} {f : Nat × Nat} (h : Lists w base v L) (hb : w.heap[b]? = some (.cells c t f)) (ht : t ≠ 30) (ht2 : t ≠ 5) :
    Lists (w.setCell ⟨b, off, none⟩ u) base v L :=
  Lists.move h fun g c' t' hg he => Below.heap_setCell _ _ _ _ (by
    intro e
    simp only at e
    subst e
    rw [hb] at hg
    injection hg with hg
    injection hg with _ h2
    subst h2
    rcases he with he | he
    · exact ht he
    · exact ht2 he)
theorem Lists.putObj {w : World} {base r : Nat} {v : Value} {L : List (List UInt8)} {o o' : Obj} (h : Lists w base v L) (hr : w.heap[r]? = some o) (ho : o.isCells = false) : Lists (w.putObj r o') base v L :=
  Lists.move h fun g c' t' hg _ => World.putObj_heap_other (by intro e; subst e; rw [hr] at hg; cases hg; simp [Obj.isCells] at ho)
theorem Lists.snoc {w w' : World} {base : Nat} {v v' u : Value} {L : List (List UInt8)} {r : List UInt8} {vs : List Value} (hL : vs.length = L.length)
    (hi : ∀ i, i < L.length → ∃ u, vs[i]? = some u ∧ OwnB w base u (L.getD i []))
    (hv : w.ownsRow base 30 1 v L.length vs) (hu : OwnB w base u r) (hown : w'.ownsRow base 30 1 v' (L.length + 1) (vs ++ [u]) ∧ AllCells w' v' (fun u => plainV u = true)) (hg : w.grownBy w' v.ownBlock) :
    Lists w' base v' (L ++ [r]) := by
  refine ⟨vs ++ [u], by simp [hL], ⟨by simpa using hown.1, hown.2⟩, fun i hi' => ?_⟩
  by_cases h : i < L.length
  · obtain ⟨x, hx, ho⟩ := hi i h
    have e : (L ++ [r]).getD i [] = L.getD i [] := by simp [List.getD_eq_getElem?_getD, List.getElem?_append_left h]
    refine ⟨x, by rw [List.getElem?_append_left (by omega)]; exact hx, ?_⟩
    rw [e]
    exact ho.kept hg (ownBlock_ne (by decide) hv ho.1)
  · obtain rfl : i = L.length := by simp at hi'; omega
    have e : (L ++ [r]).getD L.length [] = r := by simp [List.getD_eq_getElem?_getD]
    refine ⟨u, by rw [← hL]; simp, ?_⟩
    rw [e]
    exact hu.kept hg (ownBlock_ne (by decide) hv hu.1)
end Go.Proofs.Ytgbpgmbnihfkkaa

/- apportionkit: SameBytes, .. -/
namespace Go.Proofs.Ytgbpgmbnihfkkaa
open Go.RowKit
theorem push_fold (l : List UInt8) : ∀ r : ByteArray, ((l.map fun c => ((c.toNat : Nat) : Int)).foldl (fun r n => r.push (UInt8.ofNat n.toNat)) r) = ⟨r.data ++ l.toArray⟩ := by
  induction l with
  | nil => intro r; simp
  | cons c l ih =>
    intro r
    rw [List.map_cons, List.foldl_cons, ih]
    simp [ByteArray.push, UInt8.ofNat_toNat]
theorem convert_bytes {w : World} {ao : Option Addr} {n cap : Nat} {l : List UInt8} (h : IsBytes w ao n cap l) :
    (convert 30 9 (.slice ao n cap)).run Try.prog w = .ok (.string ⟨l.toArray⟩) w := by
  rw [run_convert_bytes_string w _ _ _ _ _ _ Try.underlying30 Try.underlying5 Try.underlying9]
  cases ao with
  | none =>
    obtain ⟨rfl, rfl⟩ := h.2.2.2.2 rfl
    obtain rfl : l = [] := List.eq_nil_of_length_eq_zero h.1
    rfl
  | some a =>
    obtain ⟨b, off, spot⟩ := a
    have hl := run_loadCells_list (P := Try.prog) w ⟨b, off, spot⟩ (u8s l) h.cells
    rw [u8s_length, h.1] at hl
    have e : (l.map fun c => ((c.toNat : Nat) : Int)).map (Value.int .u8) = u8s l := by rw [List.map_map]; rfl
    rw [run_bytesToString w _ n cap (l.map fun c => ((c.toNat : Nat) : Int)) (by rw [e]; exact hl), push_fold]
    simp
set_option maxRecDepth 100000 in
set_option maxHeartbeats 400000 in
theorem SameBytes_any (ao bo : Option Addr) (n m cap cap2 : Nat) (l l2 : List UInt8) (w : World) (h1 : IsBytes w ao n cap l) (h2 : IsBytes w bo m cap2 l2) :
    Calls Try.prog 46 #[.slice ao n cap, .slice bo m cap2] w fun e w' => e = .returned (.bool (l == l2)) ∧ w = w' := by
  have c1 := convert_bytes h1
  have c2 := convert_bytes h2
  go_enter Try.func46, Try.ntmps46
  go_wp2
  go_ret
  exact ⟨rfl, rfl⟩
/-- a slice of slices of bytes reads as L. -/
def IsLists (w : World) (ao : Option Addr) (n cap : Nat) (L : List (List UInt8)) : Prop :=
  L.length = n ∧ n ≤ cap ∧ cap ≤ maxLen ∧ (ao = none → n = 0 ∧ cap = 0) ∧
    ∀ i, i < n → ∃ b off aoi ni capi, ao = some ⟨b, off, none⟩ ∧ w.cell? ⟨b, off + i, none⟩ = some (.slice aoi ni capi) ∧ IsBytes w aoi ni capi (L.getD i [])
theorem IsLists.later {w w' : World} {ao : Option Addr} {n cap : Nat} {L : List (List UInt8)} (h : IsLists w ao n cap L) (hb : Below w.heap.size w w') : IsLists w' ao n cap L := by
  obtain ⟨h1, h2, h3, h4, h5⟩ := h
  refine ⟨h1, h2, h3, h4, fun i hi => ?_⟩
  obtain ⟨b, off, aoi, ni, capi, e, hc, hbs⟩ := h5 i hi
  exact ⟨b, off, aoi, ni, capi, e, (hb.cell (p := ⟨b, off + i, none⟩) (block_lt_of_cell hc)).trans hc, hbs.later hb⟩
theorem Lists.reads {w : World} {base : Nat} {v : Value} {L : List (List UInt8)} (h : Lists w base v L) : ∃ ao cap, v = .slice ao L.length cap ∧ IsLists w ao L.length cap L := by
  obtain ⟨vs, h1, ⟨h2, _⟩, h3⟩ := h
  rcases h2.2 with ⟨rfl, h0⟩ | ⟨g, cap, cur, rfl, hb, hg, hn, hm, hs, ht⟩
  · have : L = [] := List.eq_nil_of_length_eq_zero h0
    subst this
    exact ⟨none, 0, rfl, rfl, Nat.le_refl _, by unfold maxLen; omega, fun _ => ⟨rfl, rfl⟩, fun i hi => absurd hi (by simp)⟩
  · refine ⟨_, cap, rfl, rfl, hn, hm, (fun h => by cases h), fun i hi => ?_⟩
    obtain ⟨u, hu, ho⟩ := h3 i hi
    obtain ⟨aoi, capi, rfl, hbs, _⟩ := ho.bytes
    have hc := h2.cells (g := g) rfl i _ hu
    have : (⟨g, 0, none⟩ : Addr).add i = ⟨g, 0 + i, none⟩ := by unfold Addr.add; split <;> simp_all
    rw [this] at hc
    exact ⟨g, 0, aoi, _, capi, rfl, hc, hbs⟩
theorem eq_of_getD {L M : List (List UInt8)} (h : L.length = M.length) (hi : ∀ i, i < L.length → L.getD i [] = M.getD i []) : L = M := by
  apply List.ext_getElem?
  intro i
  by_cases h1 : i < L.length
  · have := hi i h1
    rw [List.getD_eq_getElem?_getD, List.getD_eq_getElem?_getD, List.getElem?_eq_getElem h1, List.getElem?_eq_getElem (by omega)] at this
    rw [List.getElem?_eq_getElem h1, List.getElem?_eq_getElem (by omega)]
    simpa using this
  · rw [List.getElem?_eq_none (by omega), List.getElem?_eq_none (by omega)]
set_option maxRecDepth 100000 in
set_option maxHeartbeats 1000000 in
theorem SameLists_any (ao bo : Option Addr) (n m cap cap2 : Nat) (L M : List (List UInt8)) (w : World) (h1 : IsLists w ao n cap L) (h2 : IsLists w bo m cap2 M) :
    Calls Try.prog 36 #[.slice ao n cap, .slice bo m cap2] w fun e w' => e = .returned (.bool (L == M)) ∧ ∃ q, w' = w.drewN q := by
  have hAt : ∀ wr q, wr = w.drewN q → IsLists wr ao n cap L ∧ IsLists wr bo m cap2 M := fun wr q e => by
    subst e; exact ⟨h1.later (below_drewN (Below.refl _ _) q), h2.later (below_drewN (Below.refl _ _) q)⟩
  obtain ⟨hl, hnc, hcm, _, _⟩ := h1
  obtain ⟨hl2, hnc2, hcm2, _, _⟩ := h2
  unfold maxLen at hcm hcm2
  have HA := Lib.hid hAt
  have Hl := Lib.hid hl
  have Hl2 := Lib.hid hl2
  clear hAt hl hl2
  by_cases hnm : n = m
  · subst hnm
    go_enter Try.func36, Try.ntmps36
    go_wp2
    go_loopw [5] (fun i wr => ∃ k : Nat, k ≤ n ∧ i = .int .i64 k ∧ Hid (∃ q, wr = w.drewN q) ∧ Hid (∀ j, j < k → L.getD j [] = M.getD j [])) (fun i _ => n - (intOf i).toNat)
    case atStart => exact ⟨0, by omega, rfl, ⟨0, rfl⟩, fun j hj => absurd hj (by omega)⟩
    case round =>
      obtain ⟨k, hk, rfl, hq0, heq⟩ := hrel
      by_cases hlt : k < n
      · obtain ⟨b, off, aoi, ni, capi, rfl, hc, hbs⟩ := (HA.out wr _ hq0.out.choose_spec).1.2.2.2.2 k hlt
        obtain ⟨b2, off2, aoi2, ni2, capi2, rfl, hc2, hbs2⟩ := (HA.out wr _ hq0.out.choose_spec).2.2.2.2.2 k hlt
        have hi0 : (0 : Int) ≤ (k : Int) := by omega
        have hi1 : (k : Int) < (n : Int) := by omega
        by_cases hq : L.getD k [] = M.getD k []
        · have hcall : ∀ q', Calls Try.prog 46 #[.slice aoi ni capi, .slice aoi2 ni2 capi2] (wr.drewN q') fun e w' => e = .returned (.bool true) ∧ w' = wr.drewN q' := fun q' =>
            (SameBytes_any _ _ _ _ _ _ _ _ _ (hbs.drewN q') (hbs2.drewN q')).mono fun e w' h => ⟨by rw [h.1, hq]; simp, h.2.symm⟩
          have HQ := Lib.hid hq
          have HC := Lib.hid hcall
          clear hq hcall hbs hbs2
          go_wp2_with fail
          go_quiet ((go_at_call 46; exact Calls.quiet_of_same (HC.out _)))
          go_wp2_with fail
          go_roundw
          case rel =>
            refine ⟨k + 1, by omega, by go_num, (by obtain ⟨q, hq⟩ := hq0.out; exact ⟨_, by rw [hq]; exact World.drewN_drewN _ _ _⟩), fun j hj => ?_⟩
            by_cases h : j < k
            · exact heq.out j h
            · obtain rfl : j = k := by omega
              exact HQ.out
          case measure => simp [intOf]; omega
        · have hcall : ∀ q', Calls Try.prog 46 #[.slice aoi ni capi, .slice aoi2 ni2 capi2] (wr.drewN q') fun e w' => e = .returned (.bool false) ∧ w' = wr.drewN q' := fun q' =>
            (SameBytes_any _ _ _ _ _ _ _ _ _ (hbs.drewN q') (hbs2.drewN q')).mono fun e w' h => ⟨by rw [h.1]; congr 2; rw [beq_eq_false_iff_ne]; exact hq, h.2.symm⟩
          have HQ := Lib.hid hq
          have HC := Lib.hid hcall
          clear hq hcall hbs hbs2
          go_wp2_with fail
          go_quiet ((go_at_call 46; exact Calls.quiet_of_same (HC.out _)))
          go_wp2_with fail
          go_ret
          have : (L == M) = false := by
            rw [beq_eq_false_iff_ne]; intro h; exact HQ.out (by rw [h])
          exact ⟨by rw [this]; rfl, (by obtain ⟨q, hq⟩ := hq0.out; exact ⟨_, by rw [hq]; exact World.drewN_drewN _ _ _⟩)⟩
      · obtain rfl : k = n := by omega
        go_wp2
        go_ret
        have : (L == M) = true := by
          rw [beq_iff_eq]; exact eq_of_getD (by rw [Hl.out, Hl2.out]) (fun i hi => heq.out i (by rw [Hl.out] at hi; exact hi))
        exact ⟨by rw [this]; rfl, hq0.out⟩
  · have hne : ¬ ((n : Int) = (m : Int)) := by omega
    go_enter Try.func36, Try.ntmps36
    go_wp2
    go_ret
    have : (L == M) = false := by
      rw [beq_eq_false_iff_ne]; intro h; apply hnm; rw [← Hl.out, ← Hl2.out, h]
    exact ⟨by rw [this]; rfl, 0, rfl⟩
end Go.Proofs.Ytgbpgmbnihfkkaa
