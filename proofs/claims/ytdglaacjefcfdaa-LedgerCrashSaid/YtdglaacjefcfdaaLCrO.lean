/- LedgerCrash, the plain law: what stays of a file behind a crash -/
import Derived.Test.YtdglaacjefcfdaaLHave
namespace Go.Proofs.Ytdglaacjefcfdaa
open Go.RowKit
/-- the record that was under way. -/
def flown (fl : Bool) (B : List UInt8) : List (List UInt8) := if fl then [B] else []
/-- what may be under way of it. -/
def UnderWay (fl : Bool) (B : List UInt8) (D : List Deed) : Prop := D = [] ∨ (fl = true ∧ D = [Deed.more (Fr.putF B)])
theorem putAll_append (H T : List (List UInt8)) : Fr.putAll (H ++ T) = Fr.putAll H ++ Fr.putAll T := by
  unfold Fr.putAll
  rw [List.flatMap_append]
theorem putAll_one (B : List UInt8) : Fr.putAll [B] = Fr.putF B := by simp [Fr.putAll]
theorem afterZ_one (S x : List UInt8) (u : Nat) : afterZ S [Deed.more x] (u : Nat) = S ++ x.take u := by
  by_cases h : (u : Int) ≤ 0
  · obtain rfl : u = 0 := by omega
    rw [afterZ_stop _ _ _ h]; simp
  · rw [afterZ_more _ _ _ h]
    have e : (min (u : Int) (x.length : Int)).toNat = min u x.length := by omega
    rw [e]
    have e2 : x.take (min u x.length) = x.take u := by
      rcases Nat.le_total u x.length with h | h
      · rw [Nat.min_eq_left h]
      · rw [Nat.min_eq_right h, List.take_of_length_le (Nat.le_refl _), List.take_of_length_le h]
    rw [e2]
    simp [afterZ]
theorem after_cut (H : List (List UInt8)) (fl : Bool) (B : List UInt8) (D : List Deed) (u : Nat) (hD : UnderWay fl B D) :
    ∃ A, afterZ (Fr.putAll H) D (u : Nat) = (Fr.putAll (H ++ flown fl B)).take A ∧ (Fr.putAll H).length ≤ A ∧ A ≤ (Fr.putAll (H ++ flown fl B)).length := by
  rcases hD with rfl | ⟨rfl, rfl⟩
  · refine ⟨(Fr.putAll H).length, ?_, Nat.le_refl _, by rw [putAll_append, List.length_append]; omega⟩
    rw [putAll_append, List.take_left' rfl]
    rfl
  · refine ⟨(Fr.putAll H).length + min u (Fr.putF B).length, ?_, by omega, ?_⟩
    · rw [afterZ_one, show flown true B = [B] from rfl, putAll_append, putAll_one, List.take_append]
      rw [List.take_of_length_le (l := Fr.putAll H) (show (Fr.putAll H).length ≤ (Fr.putAll H).length + min u (Fr.putF B).length by omega), Nat.add_sub_cancel_left]
      congr 1
      rcases Nat.le_total u (Fr.putF B).length with h | h
      · rw [Nat.min_eq_left h]
      · rw [Nat.min_eq_right h, List.take_of_length_le (Nat.le_refl _), List.take_of_length_le h]
    · rw [show flown true B = [B] from rfl, putAll_append, putAll_one, List.length_append]; omega
theorem wholeN_from : ∀ (H T : List (List UInt8)) (A : Nat), (Fr.putAll H).length ≤ A → H.length ≤ Fr.wholeN (H ++ T) A
  | [], T, A, _ => Nat.zero_le _
  | r :: H, T, A, h => by
    have e : (Fr.putAll (r :: H)).length = r.length + 12 + (Fr.putAll H).length := by
      rw [show Fr.putAll (r :: H) = Fr.putF r ++ Fr.putAll H from rfl, List.length_append, Fr.putF_length]
    rw [e] at h
    have ih := wholeN_from H T (A - (r.length + 12)) (by omega)
    rw [List.cons_append]
    unfold Fr.wholeN
    rw [if_pos (by omega), List.length_cons]
    omega
/-- behind a crash there are the records that were kept, and perhaps the one that was under way. -/
theorem recs_two (H : List (List UInt8)) (fl : Bool) (B : List UInt8) (A : Nat) (hA : (Fr.putAll H).length ≤ A) :
    (H ++ flown fl B).take (Fr.wholeN (H ++ flown fl B) A) = H ∨ (fl = true ∧ (H ++ flown fl B).take (Fr.wholeN (H ++ flown fl B) A) = H ++ [B]) := by
  have h1 := wholeN_from H (flown fl B) A hA
  have h2 := wholeN_le (H ++ flown fl B) A
  cases fl with
  | false =>
    have e : H ++ flown false B = H := by simp [flown]
    rw [e] at h1 h2 ⊢
    exact .inl (List.take_of_length_le (by omega))
  | true =>
    have e : H ++ flown true B = H ++ [B] := rfl
    rw [e] at h1 h2 ⊢
    rw [List.length_append, List.length_singleton] at h2
    rcases Nat.eq_or_lt_of_le h1 with h | h
    · left; rw [← h, List.take_left' rfl]
    · right; exact ⟨rfl, List.take_of_length_le (by rw [List.length_append, List.length_singleton]; omega)⟩
theorem putAll_len_le : ∀ (H : List (List UInt8)) (q : Nat), (∀ r ∈ H, r.length ≤ q) → (Fr.putAll H).length ≤ H.length * (q + 12)
  | [], q, _ => by simp [Fr.putAll]
  | r :: H, q, h => by
    have e : (Fr.putAll (r :: H)).length = r.length + 12 + (Fr.putAll H).length := by
      rw [show Fr.putAll (r :: H) = Fr.putF r ++ Fr.putAll H from rfl, List.length_append, Fr.putF_length]
    have ih := putAll_len_le H q (fun x hx => h x (List.mem_cons_of_mem _ hx))
    have := h r List.mem_cons_self
    rw [e, List.length_cons, Nat.succ_mul]
    omega
theorem ne_more (H : List (List UInt8)) (B : List UInt8) : (H ++ [B] == H) = false := by
  rw [beq_eq_false_iff_ne]
  intro h
  have := congrArg List.length h
  simp at this
end Go.Proofs.Ytdglaacjefcfdaa

/- LedgerCrash: what stands while a life goes on -/
namespace Go.Proofs.Ytdglaacjefcfdaa
open Go.RowKit
def life0 : LifeV := ⟨[], 0, 0⟩
/-- lives that came in. -/
def IsLives (w : World) (ao : Option Addr) (n cap : Nat) (X : List LifeV) : Prop :=
  X.length = n ∧ n ≤ cap ∧ cap ≤ maxLen ∧ ∀ i, i < n → ∃ b off c0 c1 c2, ao = some ⟨b, off, none⟩ ∧ w.cell? ⟨b, off + i * 3, none⟩ = some c0 ∧ w.cell? ⟨b, off + i * 3 + 1, none⟩ = some c1 ∧ w.cell? ⟨b, off + i * 3 + 2, none⟩ = some c2 ∧ LifeAt w c0 c1 c2 (X.getD i life0)
theorem IsLives.at {w w' : World} {ao : Option Addr} {n cap : Nat} {X : List LifeV} (h : IsLives w ao n cap X) (hb : Below w.heap.size w w') {i : Nat} (hi : i < n) :
    ∃ b off la ln lc, ao = some ⟨b, off, none⟩ ∧ w'.cell? ⟨b, off + i * 3, none⟩ = some (.slice la ln lc) ∧ w'.cell? ⟨b, off + i * 3 + 1, none⟩ = some (.int .i64 (X.getD i life0).fuse) ∧ w'.cell? ⟨b, off + i * 3 + 2, none⟩ = some (.int .i64 (X.getD i life0).keep) ∧
      IsLists w la ln lc (X.getD i life0).L ∧ (Lit.int .i64 (X.getD i life0).fuse).wf = true ∧ (Lit.int .i64 (X.getD i life0).keep).wf = true ∧ ∀ r ∈ (X.getD i life0).L, r.length ≤ 140737488355328 := by
  obtain ⟨b, off, c0, c1, c2, e, h0, h1, h2, ⟨la, ln, lc, rfl, hL⟩, rfl, rfl, q1, q2, q3⟩ := h.2.2.2 i hi
  have hlt := block_lt_of_cell h0
  have k : ∀ {o : Nat} {v : Value}, w.cell? ⟨b, o, none⟩ = some v → w'.cell? ⟨b, o, none⟩ = some v := fun hc => (World.cell?_of_block (hb.block b hlt)).trans hc
  exact ⟨b, off, la, ln, lc, e, k h0, k h1, k h2, hL, q1, q2, q3⟩
/-- what stands while records are added. -/
structure AddSt (w0 : World) (base d mb f l xb : Nat) (z keep : Int) (c0 : Value) (q : Nat) (hv : Value) (H : List (List UInt8)) (fl : Bool) (fv : Value) (B : List UInt8) (wr : World) : Prop where
  own : OwnL wr base hv H
  low : Below base w0 wr
  big : base ≤ wr.heap.size
  box : wr.heap[xb]? = some (.cells #[c0, .int .i64 z, .int .i64 keep] 56 (0, 0))
  flt : Elem wr base fv B
  len : H.length + (flown fl B).length ≤ q
  small : ∀ r ∈ H, r.length ≤ 3000
  smallB : B.length ≤ 3000
  led : ∃ n sz, LedRow wr l d n sz fl ∧ (fl = false → n = (H.length : Nat) ∧ sz = ((Fr.putAll H).length : Nat))
  no : fl = false → ∃ fu, DiskOwn wr fu d mb f base (Fr.putAll H) [] ∧ (z < 0 → fu = -1)
  yes : fl = true → ¬ z < 0 ∧ ∃ D, UnderWay true B D ∧ DiskHas wr d mb f base (Fr.putAll H) D
section
variable {q' : Nat} {w0 : World} {base d mb f l xb : Nat} {z keep : Int} {c0 : Value} {q : Nat} {hv : Value} {H : List (List UInt8)} {fl : Bool} {fv : Value} {B : List UInt8} {wr w' : World}
theorem DiskHas.later {S : List UInt8} {D : List Deed} (h : DiskHas wr d mb f base S D) (hb : Below wr.heap.size wr w') : DiskHas w' d mb f base S D := by
  obtain ⟨st, fu, out, c, b, h1, h2, h3, h4, h5⟩ := h
  exact ⟨st, fu, out, c, b, h1, h2, (hb.block d h3.lt).trans h3, (hb.block mb (heap_lt h4)).trans h4, h5.later hb⟩
theorem Elem.later (h : Elem wr base fv B) (hb : Below wr.heap.size wr w') : Elem w' base fv B :=
  h.move (fun j _ _ _ hc => hb.block j (block_lt_of_cell hc)) (fun j _ _ hj => hb.block j (heap_lt hj))
theorem AddSt.later (h : AddSt w0 base d mb f l xb z keep c0 q hv H fl fv B wr) (hb : Below wr.heap.size wr w') (hq : q ≤ q') : AddSt w0 base d mb f l xb z keep c0 q' hv H fl fv B w' := by
  obtain ⟨h1, h2, h2b, h3, h4, h5, h6, h7, ⟨n, sz, h8, h8b⟩, h9, h10⟩ := h
  refine ⟨h1.later hb, h2.trans (hb.mono h2b), Nat.le_trans h2b hb.size, (hb.block xb (heap_lt h3)).trans h3, h4.later hb, Nat.le_trans h5 hq, h6, h7, ⟨n, sz, h8.later hb, h8b⟩, fun e => ?_, fun e => ?_⟩
  · obtain ⟨fu, h, k⟩ := h9 e; exact ⟨fu, h.later hb, k⟩
  · obtain ⟨k, D, hu, h⟩ := h10 e; exact ⟨k, D, hu, h.later hb⟩
theorem elem_moved {S : List UInt8} {D : List Deed} {n sz : Int} {br : Bool} (h : Elem wr base fv B) (hm : MovedL d mb f l base wr w') (hd : DiskHas wr d mb f base S D) (hl : LedRow wr l d n sz br)
    (h1 : base ≤ d) (h2 : base ≤ mb) (h3 : base ≤ f) (h4 : base ≤ l) : Elem w' base fv B :=
  h.move (fun j hj _ _ hc => hm.block j (block_lt_of_cell hc) (by omega) (by omega) (by omega) (by omega) (fun hb => by omega)) (fun j c fr hj => (hm.cells hd hl hj (by decide) (by decide) (by decide) (by decide)).trans hj.symm)
/-- the fuse has burnt as a record was added. -/
theorem AddSt.broke {fv2 : Value} {B2 : List UInt8} {D : List Deed} {n sz : Int} (h : AddSt w0 base d mb f l xb z keep c0 q hv H false fv B wr) (hz : ¬ z < 0) (hm : MovedL d mb f l base wr w') (hl : LedRow w' l d n sz true) (hd : DiskHas w' d mb f base (Fr.putAll H) D) (hu : UnderWay true B2 D)
    (he : Elem wr base fv2 B2) (hB : B2.length ≤ 3000) (h1 : base ≤ d) (h2 : base ≤ mb) (h3 : base ≤ f) (h4 : base ≤ l) : AddSt w0 base d mb f l xb z keep c0 (q + 1) hv H true fv2 B2 w' := by
  obtain ⟨n0, sz0, hl0, _⟩ := h.led
  obtain ⟨fu, hd0, _⟩ := h.no rfl
  have hlow := hm.below h1 h2 h3 h4 h.big
  refine ⟨h.own.movedL hm hd0.has hl0 h1 h2 h3 h4, h.low.trans hlow, Nat.le_trans h.big hm.size, hm.cells hd0.has hl0 h.box (by decide) (by decide) (by decide) (by decide), elem_moved he hm hd0.has hl0 h1 h2 h3 h4, (by have := h.len; simp [flown] at this ⊢; omega), h.small, hB, ⟨n, sz, hl, (fun e => by cases e)⟩, (fun e => by cases e), fun _ => ⟨hz, D, hu, hd⟩⟩
/-- what stands as a record was added, ahead of its being kept. -/
structure AddedSt (w0 : World) (base d mb f l xb : Nat) (z keep : Int) (c0 : Value) (fu : Int) (hv : Value) (H : List (List UInt8)) (fv : Value) (B : List UInt8) (fv2 : Value) (B2 : List UInt8) (w' : World) : Prop where
  own : OwnL w' base hv H
  new : Elem w' base fv2 B2
  flt : Elem w' base fv B
  low : Below base w0 w'
  big : base ≤ w'.heap.size
  box : w'.heap[xb]? = some (.cells #[c0, .int .i64 z, .int .i64 keep] 56 (0, 0))
  led : LedRow w' l d ((H ++ [B2]).length : Nat) ((Fr.putAll (H ++ [B2])).length : Nat) false
  disk : DiskOwn w' fu d mb f base (Fr.putAll (H ++ [B2])) []
  no : z < 0 → fu = -1
theorem AddSt.added {fu : Int} {B2 : List UInt8} (h : AddSt w0 base d mb f l xb z keep c0 q hv H false fv B wr) (hm : MovedL d mb f l base wr w') (h1 : base ≤ d) (h2 : base ≤ mb) (h3 : base ≤ f) (h4 : base ≤ l)
    (hl : LedRow w' l d ((H.length : Nat) + 1) (((Fr.putAll H).length : Nat) + (B2.length + 12 : Nat)) false) (hd : DiskOwn w' fu d mb f base (Fr.putAll H ++ Fr.putF B2) []) (hfu : z < 0 → fu = -1) {fv2 : Value} (he : Elem wr base fv2 B2) :
    AddedSt w0 base d mb f l xb z keep c0 fu hv H fv B fv2 B2 w' := by
  obtain ⟨n0, sz0, hl0, _⟩ := h.led
  obtain ⟨fu0, hd0, _⟩ := h.no rfl
  have hlow := hm.below h1 h2 h3 h4 h.big
  refine ⟨h.own.movedL hm hd0.has hl0 h1 h2 h3 h4, elem_moved he hm hd0.has hl0 h1 h2 h3 h4, elem_moved h.flt hm hd0.has hl0 h1 h2 h3 h4, h.low.trans hlow, Nat.le_trans h.big hm.size, hm.cells hd0.has hl0 h.box (by decide) (by decide) (by decide) (by decide), ?_, ?_, hfu⟩
  · rw [List.length_append, putAll_append, putAll_one, List.length_append, Fr.putF_length]
    have e1 : ((H.length + [B2].length : Nat) : Int) = (H.length : Nat) + 1 := by simp
    have e2 : (((Fr.putAll H).length + (B2.length + 12) : Nat) : Int) = ((Fr.putAll H).length : Nat) + (B2.length + 12 : Nat) := by push_cast; omega
    rw [e1, e2]
    exact hl
  · rw [putAll_append, putAll_one]; exact hd
theorem AddedSt.later {fu : Int} {fv2 : Value} {B2 : List UInt8} {w1 : World} (h : AddedSt w0 base d mb f l xb z keep c0 fu hv H fv B fv2 B2 w') (hb : Below w'.heap.size w' w1) : AddedSt w0 base d mb f l xb z keep c0 fu hv H fv B fv2 B2 w1 :=
  ⟨h.own.later hb, h.new.later hb, h.flt.later hb, h.low.trans (hb.mono h.big), Nat.le_trans h.big hb.size, (hb.block xb (heap_lt h.box)).trans h.box, h.led.later hb, h.disk.later hb, h.no⟩
/-- the record is kept. -/
theorem AddedSt.kept {fu : Int} {fv2 : Value} {B2 : List UInt8} {hv' : Value} {w1 : World} (h : AddedSt w0 base d mb f l xb z keep c0 fu hv H fv B fv2 B2 w') (hsm : ∀ r ∈ H, r.length ≤ 3000) (hlen : H.length + (flown false B).length ≤ q) (hB : B.length ≤ 3000) (hB2 : B2.length ≤ 3000)
    (ho : OwnL w1 base hv' (H ++ [B2])) (hg : w'.grownBy w1 hv.ownBlock) : AddSt w0 base d mb f l xb z keep c0 (q + 1) hv' (H ++ [B2]) false fv B w1 := by
  obtain ⟨ho0, hnew, hel, hlow, hbig, hbox, hl, hd, hfu⟩ := h
  obtain ⟨vs, hvs, hva, _⟩ := id ho0
  have hrow : ∀ {j : Nat} {c : Array Value} {t : TypeId} {fr : Nat × Nat}, w'.heap[j]? = some (.cells c t fr) → t ≠ 24 → some j ≠ hv.ownBlock := fun hj ht => box_ne hj hvs ht
  refine ⟨ho, hlow.grown hg hbig (fun k hk => (hvs.lt k hk).1), Nat.le_trans hbig hg.size, (hg.block xb (heap_lt hbox) (hrow hbox (by decide))).trans hbox, ?_, ?_, ?_, hB, ⟨_, _, hl.grown ho0 hg, fun _ => ⟨rfl, rfl⟩⟩, fun _ => ⟨fu, hd.grown ho0 hg, hfu⟩, fun e => by cases e⟩
  · exact hel.move (fun j hj _ _ hc => hg.block j (block_lt_of_cell hc) (fun e => by have := (hvs.lt j e.symm).1; omega)) (fun j c fr hj => hg.block j (heap_lt hj) (hrow hj (by decide)))
  · simp [flown] at hlen ⊢; omega
  · intro r hr
    rcases List.mem_append.1 hr with h | h
    · exact hsm r h
    · rw [List.mem_singleton.1 h]; exact hB2
end
theorem Elem.up {w : World} {b b' : Nat} {u : Value} {l : List UInt8} (h : Elem w b u l) (hb : b ≤ b') : Elem w b' u l := by
  obtain ⟨ao, n, cap, e, hby, ht⟩ := h
  refine ⟨ao, n, cap, e, hby, fun a ea hl => ?_⟩
  rcases ht a ea hl with h | h
  · exact .inl (by omega)
  · exact .inr h
theorem wpList_append_lists {w : World} {ops : Array Oper} {rest : List Oper} {o : Oper} {a : Act} {Q : Exit → Act → World → Prop} (hgd : o.guard = none) (s x : Operand)
    (ho : o.op = .call { callee := .builtin .append, args := #[s, x], argTypes := #[22, 22] })
    (base : Nat) (v : Value) (L : List (List UInt8)) (hs : a.eval s = v) (hown : OwnL w base v L) (ao : Option Addr) (m c : Nat) (M : List (List UInt8)) (hx : a.eval x = .slice ao m c) (us : List Value) (hul : us.length = m) (hM : M.length = m) (hao : ao = none → m = 0 ∧ c = 0)
    (hcell : ∀ a, ao = some a → ∀ j u, us[j]? = some u → w.cell? (a.add j) = some u) (hel : ∀ i, i < m → ∃ u, us[i]? = some u ∧ Elem w base u (M.getD i []))
    (hnm : L.length + m ≤ 1000000) (hbase : base ≤ w.heap.size)
    (h : ∀ v' w', OwnL w' base v' (L ++ M) → w.grownBy w' v.ownBlock → wpList Try.prog ops Q rest (a.put o.dst v') w') : wpList Try.prog ops Q (o :: rest) a w := by
  obtain ⟨v', w', hr, h2, h3⟩ := run_append_lists o.type base v L hown ao m c M us hul hM hao hcell hel hnm hbase
  refine wpList_plain hgd fun K hK => ?_
  unfold Oper.wp execOp
  simp only [ho, resolve, invoke, builtin, Sem.run_bind, Sem.run_pure, Result.andThen_ok, List.map_toArray, List.map_cons, List.map_nil, hs, hx, hr]
  exact hK _ _ (h v' w' h2 h3)
/-- of one slice. -/
theorem wpList_append_one {w : World} {ops : Array Oper} {rest : List Oper} {o : Oper} {a : Act} {Q : Exit → Act → World → Prop} (hgd : o.guard = none) (s x : Operand)
    (ho : o.op = .call { callee := .builtin .append, args := #[s, x], argTypes := #[22, 22] })
    (base : Nat) (v : Value) (L : List (List UInt8)) (hs : a.eval s = v) (hown : OwnL w base v L) (g : Nat) (hx : a.eval x = .slice (some ⟨g, 0, none⟩) 1 1) (u : Value) (B : List UInt8) (hg : w.cell? ⟨g, 0, none⟩ = some u) (he : Elem w base u B)
    (hnm : L.length ≤ 1000) (hbase : base ≤ w.heap.size)
    (h : ∀ v' w', OwnL w' base v' (L ++ [B]) → w.grownBy w' v.ownBlock → wpList Try.prog ops Q rest (a.put o.dst v') w') : wpList Try.prog ops Q (o :: rest) a w := by
  refine wpList_append_lists hgd s x ho base v L hs hown (some ⟨g, 0, none⟩) 1 1 [B] hx [u] rfl rfl (fun e => by cases e) (fun a ea j y hy => ?_) (fun i hi => ?_) (by omega) hbase h
  · cases ea
    match j, hy with
    | 0, hy => simp at hy; subst hy; exact hg
  · obtain rfl : i = 0 := by omega
    exact ⟨u, rfl, he⟩
/-- of all of a row. -/
theorem wpList_append_row {w : World} {ops : Array Oper} {rest : List Oper} {o : Oper} {a : Act} {Q : Exit → Act → World → Prop} (hgd : o.guard = none) (s x : Operand)
    (ho : o.op = .call { callee := .builtin .append, args := #[s, x], argTypes := #[22, 22] })
    (base : Nat) (v : Value) (L : List (List UInt8)) (hs : a.eval s = v) (hown : OwnL w base v L) (bs : Nat) (u : Value) (M : List (List UInt8)) (hx : a.eval x = u) (hu : OwnL w bs u M) (hbs : bs ≤ base)
    (hnm : L.length + M.length ≤ 1000000) (hbase : base ≤ w.heap.size)
    (h : ∀ v' w', OwnL w' base v' (L ++ M) → w.grownBy w' v.ownBlock → wpList Try.prog ops Q rest (a.put o.dst v') w') : wpList Try.prog ops Q (o :: rest) a w := by
  obtain ⟨vs, hr, _, hi'⟩ := hu
  have hi : ∀ i, i < M.length → ∃ u, vs[i]? = some u ∧ Elem w base u (M.getD i []) := fun i h => by
    obtain ⟨u, e, he⟩ := hi' i h
    exact ⟨u, e, he.up hbs⟩
  have hvl : vs.length = M.length := by have := hr.1; omega
  rcases hr.2 with ⟨rfl, h0⟩ | ⟨g, cap, cur, rfl, hb, hg, hn, hm, hs2, ht⟩
  · exact wpList_append_lists hgd s x ho base v L hs hown none 0 0 M hx vs (by omega) h0 (fun _ => ⟨rfl, rfl⟩) (fun a e => by cases e) (fun i hi => by omega) (by omega) hbase h
  · exact wpList_append_lists hgd s x ho base v L hs hown (some ⟨g, 0, none⟩) M.length cap M hx vs hvl rfl (fun e => by cases e) (fun a ea j y hy => by cases ea; exact hr.cells (g := g) rfl j y hy) hi (by omega) hbase h
end Go.Proofs.Ytdglaacjefcfdaa

/- LedgerCrash: opened, as a life begins, and behind a crash -/
namespace Go.Proofs.Ytdglaacjefcfdaa
open Go.RowKit
/-- what stands between two lives. -/
structure LifeSt (w0 : World) (base d mb : Nat) (hv : Value) (H : List (List UInt8)) (wr : World) : Prop where
  own : OwnL wr base hv H
  low : Below base w0 wr
  big : base ≤ wr.heap.size
  disk : (H = [] ∧ hv = .slice none 0 0 ∧ DiskNo wr (-1) d mb) ∨ ∃ f, base ≤ f ∧ DiskOwn wr (-1) d mb f base (Fr.putAll H) []
theorem DiskNo.later' {w w' : World} {d mb : Nat} {fu : Int} (h : DiskNo w fu d mb) (hb : Below w.heap.size w w') : DiskNo w' fu d mb := by
  obtain ⟨st, c, h1, h2, h3, h4⟩ := h
  exact ⟨st, c, h1, h2, (hb.block d h3.lt).trans h3, (hb.block mb (heap_lt h4)).trans h4⟩
theorem LifeSt.later {w0 wr w' : World} {base d mb : Nat} {hv : Value} {H : List (List UInt8)} (h : LifeSt w0 base d mb hv H wr) (hb : Below wr.heap.size wr w') : LifeSt w0 base d mb hv H w' := by
  refine ⟨h.own.later hb, h.low.trans (hb.mono h.big), Nat.le_trans h.big hb.size, ?_⟩
  rcases h.disk with ⟨h1, h2, h3⟩ | ⟨f, h1, h2⟩
  · exact .inl ⟨h1, h2, h3.later' hb⟩
  · exact .inr ⟨f, h1, h2.later hb⟩
/-- a life's own cells stay. -/
def KeepsLife (w w' : World) : Prop := ∀ (j : Nat) (c : Array Value) (fr : Nat × Nat), w.heap[j]? = some (.cells c 56 fr) → w'.heap[j]? = some (.cells c 56 fr)
theorem KeepsLife.of_kc {w w' : World} (h : Kc w w') : KeepsLife w w' := fun j c fr hj => h.cells j c _ fr hj (by decide) (by decide) (by decide)
theorem scan_all (H : List (List UInt8)) (h : ∀ r ∈ H, r.length ≤ 3000) : Fr.scanF (Fr.putAll H) = (H, (Fr.putAll H).length, 0) := by
  have := Fr.scanF_putAll H [] (fun r hr => by have := h r hr; omega)
  simpa [Fr.scanF_nil] using this
section
variable {w0 wr : World} {base d mb : Nat} {hv : Value} {H : List (List UInt8)}
theorem opened_own {f : Nat} (h0 : OwnL wr base hv H) (hlow : Below base w0 wr) (hbig : base ≤ wr.heap.size) (hd : DiskOwn wr (-1) d mb f base (Fr.putAll H) []) (hsm : ∀ r ∈ H, r.length ≤ 3000) (h1 : base ≤ d) (h2 : base ≤ mb) (h3 : base ≤ f) :
    Calls Try.prog 10 #[.pointer (some ⟨d, 0, none⟩), .int .i64 (H.length : Nat)] wr fun e w' => ∃ l v, e = .returned (.tuple #[.pointer (some ⟨l, 0, none⟩), v, .bool true]) ∧ base ≤ l ∧
      LedRow w' l d (H.length : Nat) ((Fr.putAll H).length : Nat) false ∧ OwnL w' base v H ∧ OwnL w' base hv H ∧ DiskOwn w' (-1) d mb f base (Fr.putAll H) [] ∧ Below base w0 w' ∧ base ≤ w'.heap.size ∧ KeepsLife wr w' := by
  refine (opened_log base d mb f (Fr.putAll H) [] (Fr.putAll H) H (Fr.putAll H).length H.length wr hbig hd rfl (scan_all H hsm) rfl).mono ?_
  rintro e w' ⟨l, v, rfl, hl, hlr, hdo, hls, hmv⟩
  exact ⟨l, v, rfl, by omega, hlr, hls.ownL hbig, h0.moved hmv hd.has h1 h2 h3, hdo, hlow.trans (hmv.below h1 h2 h3 hbig), Nat.le_trans hbig hmv.size, .of_kc (Kc.of_log hmv hd.log)⟩
theorem opened_start (h : LifeSt w0 base d mb hv H wr) (hsm : ∀ r ∈ H, r.length ≤ 3000) (h1 : base ≤ d) (h2 : base ≤ mb) :
    Calls Try.prog 10 #[.pointer (some ⟨d, 0, none⟩), .int .i64 (H.length : Nat)] wr fun e w' => ∃ l v f, e = .returned (.tuple #[.pointer (some ⟨l, 0, none⟩), v, .bool true]) ∧ base ≤ l ∧ base ≤ f ∧
      LedRow w' l d (H.length : Nat) ((Fr.putAll H).length : Nat) false ∧ OwnL w' base v H ∧ OwnL w' base hv H ∧ DiskOwn w' (-1) d mb f base (Fr.putAll H) [] ∧ Below base w0 w' ∧ base ≤ w'.heap.size ∧ KeepsLife wr w' := by
  obtain ⟨ho, hlow, hbig, hd⟩ := h
  rcases hd with ⟨rfl, rfl, hd⟩ | ⟨f, h3, hd⟩
  · refine (opened_new base d mb wr hbig hd).mono ?_
    rintro e w' ⟨l, f, rfl, hl, hf, hlr, hdo, hmv⟩
    exact ⟨l, _, f, rfl, by omega, by omega, hlr, OwnL.nil _ _, OwnL.nil _ _, hdo, hlow.trans (hmv.below h1 h2 (by omega) hbig), Nat.le_trans hbig hmv.size, .of_kc (Kc.of_no hmv hd hf)⟩
  · refine (opened_own ho hlow hbig hd hsm h1 h2 h3).mono ?_
    rintro e w' ⟨l, v, rfl, hl, hrest⟩
    exact ⟨l, v, f, rfl, hl, h3, hrest⟩
/-- what was kept, and perhaps what was under way. -/
def RTwo (R H : List (List UInt8)) (fl : Bool) (B : List UInt8) : Prop := R = H ∨ (fl = true ∧ R = H ++ [B])
theorem opened_crash {f A : Nat} {fl : Bool} {fv : Value} {B : List UInt8} (h0 : OwnL wr base hv H) (hflt : Elem wr base fv B) (hlow : Below base w0 wr) (hbig : base ≤ wr.heap.size) (hd : DiskOwn wr (-1) d mb f base ((Fr.putAll (H ++ flown fl B)).take A) []) (hA : (Fr.putAll H).length ≤ A) (hA2 : A ≤ (Fr.putAll (H ++ flown fl B)).length) (hsm : ∀ r ∈ H, r.length ≤ 3000) (hB : B.length ≤ 3000) (hn : H.length ≤ 200) (h1 : base ≤ d) (h2 : base ≤ mb) (h3 : base ≤ f) :
    Calls Try.prog 10 #[.pointer (some ⟨d, 0, none⟩), .int .i64 (-1)] wr fun e w' => ∃ l v R, e = .returned (.tuple #[.pointer (some ⟨l, 0, none⟩), v, .bool true]) ∧ RTwo R H fl B ∧
      OwnL w' base v R ∧ OwnL w' base hv H ∧ Elem w' base fv B ∧ DiskOwn w' (-1) d mb f base (Fr.putAll R) [] ∧ Below base w0 w' ∧ base ≤ w'.heap.size := by
  have hPsm : ∀ r ∈ H ++ flown fl B, r.length ≤ 3000 := by
    intro r hr
    rcases List.mem_append.1 hr with h | h
    · exact hsm r h
    · cases fl with
      | false => simp [flown] at h
      | true => simp [flown] at h; rw [h]; exact hB
  have hPl := putAll_len_le (H ++ flown fl B) 3000 hPsm
  have hfl : (flown fl B).length ≤ 1 := by cases fl <;> simp [flown]
  rw [List.length_append] at hPl
  have hbd : (H.length + (flown fl B).length) * (3000 + 12) ≤ 201 * 3012 := Nat.mul_le_mul (by omega) (by omega)
  have hO := Open_at base d mb f A (H ++ flown fl B) wr hbig hd hA2 (fun r hr => by have := hPsm r hr; omega) (by omega)
  have hR := recs_two H fl B A hA
  generalize (H ++ flown fl B).take (Fr.wholeN (H ++ flown fl B) A) = R at hO hR
  refine (opened_neg d (Fr.putAll R).length R wr _ hO).mono ?_
  rintro e w' ⟨l, v, rfl, hl, hlr, hls, hdo, hmv⟩
  exact ⟨l, v, R, rfl, hR, hls.ownL hbig, h0.moved hmv hd.has h1 h2 h3, hflt.move (fun j hj _ _ hc => hmv.block j (block_lt_of_cell hc) (by omega) (by omega) (by omega) (fun hb => by omega)) (fun j c fr hj => (hmv.cellsH hd.has hj (by decide) (by decide) (by decide)).trans hj.symm), hdo, hlow.trans (hmv.below h1 h2 h3 hbig), Nat.le_trans hbig hmv.size⟩
theorem elem_nil (w : World) (base : Nat) : Elem w base (.slice none 0 0) [] := ⟨none, 0, 0, rfl, IsBytes.nil w, fun a e _ => by cases e⟩
/-- a life begins: no fuse was laid. -/
theorem life_begins {f l xb : Nat} {z keep : Int} {c0 : Value} {w4 : World} {fu : Int} (hl : LedRow wr l d (H.length : Nat) ((Fr.putAll H).length : Nat) false) (ho : OwnL wr base hv H) (hd : DiskOwn wr (-1) d mb f base (Fr.putAll H) []) (hlow : Below base w0 wr) (hbig : base ≤ wr.heap.size)
    (hbox : wr.heap[xb]? = some (.cells #[c0, .int .i64 z, .int .i64 keep] 56 (0, 0))) (hsm : ∀ r ∈ H, r.length ≤ 3000) (hm : Moved d mb f base wr w4) (hd4 : DiskOwn w4 fu d mb f base (Fr.putAll H) []) (hfu : z < 0 → fu = -1) (h1 : base ≤ d) (h2 : base ≤ mb) (h3 : base ≤ f) :
    AddSt w0 base d mb f l xb z keep c0 H.length hv H false (.slice none 0 0) [] w4 := by
  have hml : ∀ {j : Nat} {c : Array Value} {t : TypeId} {fr : Nat × Nat}, wr.heap[j]? = some (.cells c t fr) → t ≠ 67 → t ≠ 77 → t ≠ 94 → w4.heap[j]? = some (.cells c t fr) := fun hj a b c => hm.cellsH hd.has hj a b c
  refine ⟨ho.moved hm hd.has h1 h2 h3, hlow.trans (hm.below h1 h2 h3 hbig), Nat.le_trans hbig hm.size, hml hbox (by decide) (by decide) (by decide), elem_nil _ _, (by simp [flown]), hsm, by simp, ⟨_, _, hml hl (by decide) (by decide) (by decide), fun _ => ⟨rfl, rfl⟩⟩, fun _ => ⟨fu, hd4, hfu⟩, fun e => by cases e⟩
theorem AddSt.has {f l xb : Nat} {z keep : Int} {c0 : Value} {q : Nat} {fl : Bool} {fv : Value} {B : List UInt8} (h : AddSt w0 base d mb f l xb z keep c0 q hv H fl fv B wr) : ∃ D, UnderWay fl B D ∧ DiskHas wr d mb f base (Fr.putAll H) D := by
  cases fl with
  | false =>
    obtain ⟨fu, hd, _⟩ := h.no rfl
    exact ⟨[], .inl rfl, hd.has⟩
  | true => exact (h.yes rfl).2
/-- behind a crash. -/
theorem AddSt.crashed {f l xb : Nat} {z keep : Int} {c0 : Value} {q : Nat} {fl : Bool} {fv : Value} {B : List UInt8} {D : List Deed} {u : Nat} {w' : World} (h : AddSt w0 base d mb f l xb z keep c0 q hv H fl fv B wr) (hu : UnderWay fl B D) (hd : DiskHas wr d mb f base (Fr.putAll H) D) (hm : Moved d mb f base wr w')
    (ho : DiskOwn w' (-1) d mb f base (afterZ (Fr.putAll H) D u) []) (h1 : base ≤ d) (h2 : base ≤ mb) (h3 : base ≤ f) :
    ∃ A, OwnL w' base hv H ∧ Elem w' base fv B ∧ Below base w0 w' ∧ base ≤ w'.heap.size ∧ DiskOwn w' (-1) d mb f base ((Fr.putAll (H ++ flown fl B)).take A) [] ∧ (Fr.putAll H).length ≤ A ∧ A ≤ (Fr.putAll (H ++ flown fl B)).length := by
  obtain ⟨A, e, hA1, hA2⟩ := after_cut H fl B D u hu
  rw [e] at ho
  exact ⟨A, h.own.moved hm hd h1 h2 h3, h.flt.move (fun j hj _ _ hc => hm.block j (block_lt_of_cell hc) (by omega) (by omega) (by omega) (fun hb => by omega)) (fun j c fr hj => (hm.cellsH hd hj (by decide) (by decide) (by decide)).trans hj.symm), h.low.trans (hm.below h1 h2 h3 h.big), Nat.le_trans h.big hm.size, ho, hA1, hA2⟩
/-- how many records there are behind a life, and how long. -/
theorem AddSt.len_after {f l xb : Nat} {z keep : Int} {c0 : Value} {q : Nat} {fl : Bool} {fv : Value} {B : List UInt8} {R : List (List UInt8)} (h : AddSt w0 base d mb f l xb z keep c0 q hv H fl fv B wr) (hR : RTwo R H fl B) : R.length ≤ q ∧ ∀ r ∈ R, r.length ≤ 3000 := by
  have hl := h.len
  rcases hR with rfl | ⟨rfl, rfl⟩
  · exact ⟨by omega, h.small⟩
  · simp [flown] at hl
    refine ⟨by simp; omega, fun r hr => ?_⟩
    rcases List.mem_append.1 hr with h1 | h1
    · exact h.small r h1
    · rw [List.mem_singleton.1 h1]; exact h.smallB
end
end Go.Proofs.Ytdglaacjefcfdaa
