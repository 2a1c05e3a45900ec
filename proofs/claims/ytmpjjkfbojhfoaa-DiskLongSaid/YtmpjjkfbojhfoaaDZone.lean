/- disk: another block in which none of its bytes lie; CopyBytes -/
import Derived.Test.YtmpjjkfbojhfoaaDMore
namespace Go.Proofs.Ytmpjjkfbojhfoaa
open Go.RowKit
theorem IsBytes.at_block {w w' : World} {ao : Option Addr} {n cap : Nat} {l : List UInt8} (h : IsBytes w ao n cap l) (hb : 0 < n → ∀ ad, ao = some ad → w'.heap[ad.block]? = w.heap[ad.block]?) : IsBytes w' ao n cap l := by
  obtain ⟨h1, h2, h3, h4, h5⟩ := h
  refine ⟨h1, h2, h3, fun hl => ?_, h5⟩
  obtain ⟨b, off, rfl, hc⟩ := h4 hl
  have hn : 0 < n := by
    cases l with
    | nil => exact absurd rfl hl
    | cons a l => simp at h1; omega
  refine ⟨b, off, rfl, fun i hi => ?_⟩
  have hbb : w'.heap[b]? = w.heap[b]? := hb hn _ rfl
  exact (World.cell?_of_block (a := ⟨b, off + i, none⟩) hbb).trans (hc i hi)
theorem IsBytes.block_lt {w : World} {ad : Addr} {n cap : Nat} {l : List UInt8} (h : IsBytes w (some ad) n cap l) (hn : 0 < n) : ad.block < w.heap.size := by
  obtain ⟨h1, h2, h3, h4, h5⟩ := h
  have hl : l ≠ [] := by rintro rfl; simp at h1; omega
  obtain ⟨b, off, e, hc⟩ := h4 hl
  injection e with e
  rw [e]
  exact hc.lt hl
theorem FileOwn.rezone {Z1 Z2 : Zone} {w w' : World} {f base : Nat} {S : List UInt8} {D : List Deed} (h : @FileOwn Z1 w f base S D) (hbl : ∀ j, j < w.heap.size → Z1.g ≠ some j → w'.heap[j]? = w.heap[j]?) (hty : ∀ k, Z1.g = some k → ∃ c fr, w.heap[k]? = some (.cells c 5 fr))
    (hz : ∀ k, Z2.g = some k → Z1.g = some k ∨ w.heap.size ≤ k) : @FileOwn Z2 w' f base S D ∧ Go.Proofs.Ytmpjjkfbojhfoaa.rowOf w' f = Go.Proofs.Ytmpjjkfbojhfoaa.rowOf w f := by
  obtain ⟨⟨ao, n, cap, lv, hr, hs, xs, ho, ha, hi⟩, q1, q2⟩ := h
  have hcell : ∀ {j : Nat} {c : Array Value} {t : TypeId} {fr : Nat × Nat}, w.heap[j]? = some (.cells c t fr) → t ≠ 5 → w'.heap[j]? = w.heap[j]? := by
    intro j c t fr hj ht
    refine hbl j (heap_lt hj) (fun e => ?_)
    obtain ⟨c', fr', hk⟩ := hty j e
    rw [hk] at hj
    injection hj with hj
    injection hj with _ hj
    exact ht hj.symm
  have hfs : w'.heap[f]? = w.heap[f]? := hcell hr (by decide)
  have hbytes : ∀ {a : Option Addr} {m c : Nat} {l : List UInt8}, IsBytes w a m c l → @ZS Z1 a m → IsBytes w' a m c l ∧ @ZS Z2 a m := by
    intro a m c l hb hzs
    refine ⟨hb.at_block (fun hm ad e => ?_), fun hm ad e hk => ?_⟩
    · subst e
      exact hbl _ (hb.block_lt hm) (hzs hm ad rfl)
    · subst e
      rcases hz _ hk with r | r
      · exact hzs hm ad rfl r
      · have := hb.block_lt hm
        omega
  obtain ⟨hs1, hs2⟩ := hbytes hs.1 hs.2
  refine ⟨⟨⟨ao, n, cap, lv, hfs.trans hr, ⟨hs1, hs2⟩, xs, ownsRow_move ho (fun g hg => ?_), ha.move (fun g hg => ?_), fun i hlt => ?_⟩, q1, q2⟩, rowOf_same hfs⟩
  · rcases ho.2 with ⟨rfl, _⟩ | ⟨g', cap', cur, rfl, _, hg', _⟩
    · simp [Value.ownBlock] at hg
    · simp only [Value.ownBlock, Option.some.injEq] at hg
      subst hg
      exact hcell hg' (by decide)
  · rcases ho.2 with ⟨rfl, _⟩ | ⟨g', cap', cur, rfl, _, hg', _⟩
    · simp [Value.ownBlock] at hg
    · simp only [Value.ownBlock, Option.some.injEq] at hg
      subst hg
      exact hcell hg' (by decide)
  · obtain ⟨u, hu, hd, hzv⟩ := hi i hlt
    cases hx : D.getD i (.cut 0) with
    | more b =>
      rw [hx] at hd
      obtain ⟨a, m, c, rfl, hb⟩ := hd
      cases a with
      | none =>
        refine ⟨_, hu, ⟨none, m, c, rfl, hb.at_block (fun _ ad e => by cases e)⟩, trivial⟩
      | some ad =>
        have hzs : @ZS Z1 (some ad) m := fun hm ad' e => by
          injection e with e
          subst e
          exact hzv hm
        obtain ⟨b1, b2⟩ := hbytes hb hzs
        exact ⟨_, hu, ⟨some ad, m, c, rfl, b1⟩, fun hm => b2 hm ad rfl⟩
    | cut z =>
      rw [hx] at hd
      obtain rfl := hd
      exact ⟨_, hu, rfl, trivial⟩
theorem DiskG.rezone {Z1 Z2 : Zone} {w w' : World} {st fu : Int} {out : Bool} {d mb base : Nat} {M : List Ent} {C : Cont} (h : @DiskG Z1 w st fu out d mb base M C) (_hsz : w.heap.size ≤ w'.heap.size) (hbl : ∀ j, j < w.heap.size → Z1.g ≠ some j → w'.heap[j]? = w.heap[j]?) (hty : ∀ k, Z1.g = some k → ∃ c fr, w.heap[k]? = some (.cells c 5 fr))
    (hz : ∀ k, Z2.g = some k → (Z1.g = some k ∨ w.heap.size ≤ k) ∧ k < w'.heap.size) : @DiskG Z2 w' st fu out d mb base M C := by
  have pdm := @DiskG.dm Z1 _ _ _ _ _ _ _ _ _ h
  have plow := @DiskG.low Z1 _ _ _ _ _ _ _ _ _ h
  have pown := @DiskG.own Z1 _ _ _ _ _ _ _ _ _ h
  have papart := @DiskG.apart Z1 _ _ _ _ _ _ _ _ _ h
  have prows := @DiskG.rows Z1 _ _ _ _ _ _ _ _ _ h
  have hd : DiskM w' st fu out d mb M := by
    obtain ⟨q1, q2, q3, c, q4, q5⟩ := pdm
    refine ⟨q1, q2, (hbl d q3.lt (fun e => ?_)).trans q3, c, q4, (hbl mb (heap_lt q5) (fun e => ?_)).trans q5⟩
    · obtain ⟨c', fr', hk⟩ := hty d e
      unfold DiskRow at q3
      rw [hk] at q3
      injection q3 with q3
      injection q3 with _ q3
      exact absurd q3 (by decide)
    · obtain ⟨c', fr', hk⟩ := hty mb e
      rw [hk] at q5
      cases q5
  have key : ∀ x ∈ M, @FileOwn Z2 w' x.2.1 base (C x.2.1).1 (C x.2.1).2 ∧ rowOf w' x.2.1 = rowOf w x.2.1 := fun x hx => FileOwn.rezone (Z1 := Z1) (Z2 := Z2) (pown x hx).2 hbl hty (fun k hk => (hz k hk).1)
  refine @DiskG.mk Z2 _ _ _ _ _ _ _ _ _ hd plow  (fun x hx => ⟨(pown x hx).1, (key x hx).1⟩) papart (fun x hx y hy hne k hk => ?_) (fun k hk => (hz k hk).2)
  rw [(key x hx).2] at hk
  rw [(key y hy).2]
  exact prows x hx y hy hne k hk
/-- own bytes stay where a disk does something. -/
theorem OwnB.keptD {d mb base b2 : Nat} {w w' : World} {st fu : Int} {out : Bool} {es : Array MapEntry} {cl : Nat} {v : Value} {l : List UInt8} (h : OwnB w b2 v l) (k : Kept d mb base w w') (hd : DiskRow w d mb st fu out) (hm : w.heap[mb]? = some (.map es cl)) : OwnB w' b2 v l := by
  refine h.move (fun g hg => ?_)
  rcases h.1.2 with ⟨rfl, _⟩ | ⟨g', cap', cur, rfl, _, hg', _⟩
  · simp [Value.ownBlock] at hg
  · simp only [Value.ownBlock, Option.some.injEq] at hg
    subst hg
    exact k.cells hd hm hg' (by decide)
/-- own bytes' block. -/
theorem OwnB.typed {w : World} {base k : Nat} {v : Value} {l : List UInt8} (h : OwnB w base v l) (hk : v.ownBlock = some k) : ∃ c fr, w.heap[k]? = some (.cells c 5 fr) := by
  rcases h.1.2 with ⟨rfl, _⟩ | ⟨g', cap', cur, rfl, _, hg', _⟩
  · simp [Value.ownBlock] at hk
  · simp only [Value.ownBlock, Option.some.injEq] at hk
    subst hk
    exact ⟨_, _, hg'⟩
theorem wpList_append_bytes_at {w : World} {ops : Array Oper} {rest : List Oper} {o : Oper} {a : Act} {Q : Exit → Act → World → Prop} (hgd : o.guard = none) (s x : Operand)
    (ho : o.op = .call { callee := .builtin .append, args := #[s, x], argTypes := #[23, 23] })
    (base : Nat) (v : Value) (l : List UInt8) (hs : a.eval s = v) (hown : OwnB w base v l)
    (ao : Option Addr) (m c : Nat) (l2 : List UInt8) (hx : a.eval x = .slice ao m c) (hsrc : IsBytes w ao m c l2) (hnm : l.length + m ≤ 140737488355328) (hbase : base ≤ w.heap.size)
    (h : ∀ v' w', OwnB w' base v' (l ++ l2) → w.grownBy w' v.ownBlock → (∀ g, v'.ownBlock = some g → v.ownBlock = some g ∨ g = w.heap.size) → wpList Try.prog ops Q rest (a.put o.dst v') w') : wpList Try.prog ops Q (o :: rest) a w := by
  obtain ⟨v', w', hr, h2, h3, h4⟩ := run_append_bytes o.type base v l hown ao m c l2 hsrc hnm hbase
  refine wpList_plain hgd fun K hK => ?_
  unfold Oper.wp execOp
  simp only [ho, resolve, invoke, builtin, Sem.run_bind, Sem.run_pure, Result.andThen_ok, List.map_toArray, List.map_cons, List.map_nil, hs, hx, hr]
  exact hK _ _ (h v' w' h2 h3 h4)
set_option maxRecDepth 100000 in
theorem CopyBytes_any (ao : Option Addr) (n cap : Nat) (l : List UInt8) (w : World) (hs : IsBytes w ao n cap l) (hn : n ≤ 4294967296) :
    Calls Try.prog 26 #[.slice ao n cap] w fun e w' => ∃ v, e = .returned v ∧ OwnB w' w.heap.size v l ∧ Below w.heap.size w w' := by
  have hl := hs.1
  have hem : OwnB (w.alloc (.cells #[] 5)) w.heap.size (.slice (some ⟨w.heap.size, 0, none⟩) 0 0) [] := by
    refine ⟨World.ownsRow_made w #[] 0 (Nat.le_refl _) (by unfold maxLen; omega) (by simp), fun g c t f hg hc u hu => ?_⟩
    simp only [Value.ownBlock, Option.some.injEq] at hg
    subst hg
    rw [heap_alloc_new] at hc
    cases hc
    simp at hu
  have hs2 := hs.later ((Below.refl w.heap.size w).alloc (Nat.le_refl _) (.cells #[] 5))
  have hb1 : Below w.heap.size w (w.alloc (.cells #[] 5)) := (Below.refl w.heap.size w).alloc (Nat.le_refl _) _
  have HS := Lib.hid hs2
  have HE := Lib.hid hem
  clear hs2 hem hs hl
  go_enter Try.func26, Try.ntmps26
  go_wp2_with (at_builtin; refine wpList_append_bytes rfl _ _ rfl w.heap.size _ [] rfl HE.out _ _ _ l rfl HS.out (by simp; omega) (by simp) ?_; intro v1 w1 hown1 hg1)
  go_wp2
  go_ret
  exact ⟨_, rfl, hown1, hb1.grown hg1 (by simp) (fun k hk => (HE.out.1.lt k hk).1)⟩
end Go.Proofs.Ytmpjjkfbojhfoaa
