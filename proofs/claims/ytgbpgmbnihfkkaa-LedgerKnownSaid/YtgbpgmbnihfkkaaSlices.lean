/- rows of the call's own, of whose block every cell is known to be of a kind: what a loop over all of the capacity asks -/
import Derived.Test.YtgbpgmbnihfkkaaNumber
import Derived.Laws.AppendOwnNone
namespace Go.Proofs.Ytgbpgmbnihfkkaa
open Go.RowKit
/-- may this be a cell of what is neither bytes nor deeds? -/
def plainV : Value → Bool
  | .int .u8 _ => false
  | .iface _ _ => false
  | _ => true
/-- every cell of v's block is ok. -/
def AllCells (w : World) (v : Value) (ok : Value → Prop) : Prop := ∀ g c t f, v.ownBlock = some g → w.heap[g]? = some (.cells c t f) → ∀ u, u ∈ c → ok u
theorem AllCells.move {w w' : World} {v : Value} {ok : Value → Prop} (h : AllCells w v ok) (hb : ∀ g, v.ownBlock = some g → w'.heap[g]? = w.heap[g]?) : AllCells w' v ok :=
  fun g c t f hg hc => h g c t f hg (by rw [← hb g hg]; exact hc)
theorem ownsRow_move {w w' : World} {base e s n : Nat} {v : Value} {xs : List Value} (h : w.ownsRow base e s v n xs) (hb : ∀ g, v.ownBlock = some g → w'.heap[g]? = w.heap[g]?) : w'.ownsRow base e s v n xs := by
  refine ⟨h.1, ?_⟩
  rcases h.2 with hn | ⟨g, cap, cur, rfl, hbg, hgg, rest⟩
  · exact .inl hn
  · exact .inr ⟨g, cap, cur, rfl, hbg, by rw [hb g rfl]; exact hgg, rest⟩
theorem ownsRow_base {w : World} {base base' e s n : Nat} {v : Value} {xs : List Value} (h : w.ownsRow base e s v n xs) (hb : base' ≤ base) : w.ownsRow base' e s v n xs := by
  refine ⟨h.1, ?_⟩
  rcases h.2 with hn | ⟨g, cap, cur, rfl, hbg, rest⟩
  · exact .inl hn
  · exact .inr ⟨g, cap, cur, rfl, by omega, rest⟩
theorem ownsRow_shape {w : World} {base e s n : Nat} {v : Value} {xs : List Value} (h : w.ownsRow base e s v n xs) : ∃ ao cap, v = .slice ao n cap := by
  rcases h.2 with ⟨rfl, rfl⟩ | ⟨g, cap, cur, rfl, _⟩
  · exact ⟨_, _, rfl⟩
  · exact ⟨_, _, rfl⟩
/-- a block with cells of another type is not v's. -/
theorem box_ne {W : World} {c : Array Value} {t b e s n base : Nat} {f : Nat × Nat} {u : Value} {xs : List Value} (hb : W.heap[b]? = some (.cells c t f)) (hu : W.ownsRow base e s u n xs) (ht : t ≠ e) : some b ≠ u.ownBlock := by
  rcases hu.2 with ⟨rfl, _⟩ | ⟨g, cap, cur, rfl, _, hg, _⟩
  · simp [Value.ownBlock]
  · simp only [Value.ownBlock]
    intro h
    injection h with h
    subst h
    rw [hb] at hg
    injection hg with hg
    injection hg with _ h2
    exact ht h2
theorem ownBlock_ne {w : World} {base b2 e e' s s' : Nat} {v u : Value} {n m : Nat} {xs ys : List Value} (he : e ≠ e') (hv : w.ownsRow base e s v n xs) (hu : w.ownsRow b2 e' s' u m ys) :
    ∀ g, u.ownBlock = some g → some g ≠ v.ownBlock := by
  intro g hg
  rcases hu.2 with ⟨rfl, _⟩ | ⟨g', cap, cur, rfl, _, hg', _⟩
  · simp [Value.ownBlock] at hg
  · simp only [Value.ownBlock, Option.some.injEq] at hg
    subst hg
    exact box_ne hg' hv (Ne.symm he)
/-- an own row's block is not one that holds no cells. -/
theorem obj_ne {W : World} {o : Obj} {b e s n base : Nat} {u : Value} {xs : List Value} (hb : W.heap[b]? = some o) (ho : ∀ c t f, o ≠ .cells c t f) (hu : W.ownsRow base e s u n xs) : some b ≠ u.ownBlock := by
  rcases hu.2 with ⟨rfl, _⟩ | ⟨g, cap, cur, rfl, _, hg, _⟩
  · simp [Value.ownBlock]
  · simp only [Value.ownBlock]
    intro h
    injection h with h
    subst h
    rw [hb] at hg
    injection hg with hg
    exact ho _ _ _ hg
theorem mem_zeroCells {z : Array Value} {k : Nat} {u : Value} (h : u ∈ Builtin.zeroCells z k) : u ∈ z := by
  unfold Builtin.zeroCells at h
  rw [Array.mem_map] at h
  obtain ⟨i, hi, rfl⟩ := h
  rw [Array.mem_range] at hi
  have hz : 0 < z.size := by
    rcases Nat.eq_zero_or_pos z.size with h0 | h0
    · rw [h0] at hi; simp at hi
    · exact h0
  have hlt : i % z.size < z.size := Nat.mod_lt _ hz
  rw [getElem!_pos z (i % z.size) hlt]
  exact Array.getElem_mem hlt
section
variable {P : Program} (w : World)
theorem run_append_all (base : Nat) (t ty e : TypeId) (i : TypeInfo) (z : Value) (size bytes : Nat) (ht : P.underlying t = some (.slice e)) (hi : P.info? e = some i) (hz : i.zero = some z)
    (hsize : i.size = size) (hby : i.bytes = bytes) (hzs : z.cells.size = size) (hsz : 0 < size)
    (v : Value) (n : Nat) (xs : List Value) (hown : w.ownsRow base e size v n xs)
    (a : Addr) (m c : Nat) (news : List Value) (hl : news.length = m * size) (hnews : ∀ j u, news[j]? = some u → w.cell? (a.add j) = some u) (h1 : ∀ u ∈ news, u.oneCell' = true)
    (h63 : n + m ≤ maxLen) (hbytes : (n + m) * bytes ≤ 140737488355328) (hbase : base ≤ w.heap.size)
    (ok : Value → Prop) (hzok : ∀ u, u ∈ z.cells → ok u) (hnok : ∀ u, u ∈ news → ok u) (hold : AllCells w v ok) :
    ∃ v' w', (Builtin.append_ #[t, t] ty #[v, .slice (some a) m c]).run P w = .ok v' w' ∧ w'.ownsRow base e size v' (n + m) (xs ++ news) ∧ w.grownBy w' v.ownBlock ∧ AllCells w' v' ok ∧ (v' = .slice none 0 0 ↔ v = .slice none 0 0 ∧ m = 0) ∧
      (∀ g, v'.ownBlock = some g → v.ownBlock = some g ∨ g = w.heap.size) := by
  obtain ⟨v', w', hr, h2, h3, h4⟩ := run_append_own (P := P) w base t ty e i z size bytes ht hi hz hsize hby hzs hsz v n xs hown a m c news hl hnews h1 h63 hbytes hbase
  refine ⟨v', w', hr, h2, h3, ?_, h4, ?_⟩
  all_goals
    subst hsize
    subst hby
    rcases hown.2 with ⟨rfl, rfl⟩ | ⟨g, cap, cur, rfl, hbg, hg, hnc, hcm, hcs, htake⟩
    · have hx : xs = [] := List.eq_nil_of_length_eq_zero (by simpa using hown.1)
      subst hx
      by_cases hm : m = 0
      · have := h4.2 ⟨rfl, hm⟩
        subst this
        first | (intro g c t f hg; simp [Value.ownBlock] at hg; done) | (intro g hg; simp [Value.ownBlock] at hg; done)
      · have hr2 := run_append_nil (P := P) w t ty e i z ht hi hz a m c news hl hnews (by omega) (by unfold maxLen at h63; omega) (by have hb := hbytes; simp only [Nat.zero_add] at hb; omega)
        rw [hr2] at hr
        injection hr with e1 e2
        subst e1 e2
        first
        | (intro g c t f hg hc u hu
           simp only [Value.ownBlock, Option.some.injEq] at hg
           subst hg
           have := heap_alloc_new w.drew (.cells (news.toArray ++ Builtin.zeroCells z.cells (grownCap w m 0 e - m)) e)
           rw [show w.drew.heap.size = w.heap.size from rfl] at this
           rw [this] at hc
           cases hc
           rcases Array.mem_append.1 hu with h | h
           · exact hnok u (by simpa using h)
           · exact hzok u (mem_zeroCells h))
        | (intro g hg; right; simpa [Value.ownBlock] using hg.symm)
    · by_cases hroom : n + m ≤ cap
      · have hfit : n * i.size + news.length ≤ cur.size := by rw [hl, hcs, ← Nat.add_mul]; exact Nat.mul_le_mul_right _ hroom
        have hr2 := run_append_room (P := P) w t ty e i ht hi g n cap cur hg a m c news hl hnews h1 hroom hfit
        rw [hr2] at hr
        injection hr with e1 e2
        subst e1 e2
        first
        | (intro g' c' t' f' hg' hc' u hu
           simp only [Value.ownBlock, Option.some.injEq] at hg'
           subst hg'
           rw [setRow_heap w g cur _ e _ hg] at hc'
           cases hc'
           have hu' : u ∈ cur.toList.take (n * i.size) ++ news ++ cur.toList.drop (n * i.size + news.length) := by simpa using hu
           rcases List.mem_append.1 hu' with h | h
           · rcases List.mem_append.1 h with h | h
             · exact hold g cur e (0, 0) rfl hg u (by simpa using List.mem_of_mem_take h)
             · exact hnok u h
           · exact hold g cur e (0, 0) rfl hg u (by simpa using List.mem_of_mem_drop h))
        | (intro g' hg'; left; exact hg')
      · have holds : ∀ j u, xs[j]? = some u → w.cell? ((⟨g, 0, none⟩ : Addr).add j) = some u := hown.cells (g := g) rfl
        have hr2 := run_append_grow (P := P) w t ty e i z ht hi hz ⟨g, 0, none⟩ n cap xs hown.1 holds a m c news hl hnews (by omega) (by unfold maxLen at h63; omega) (growslice_fits (by omega) hbytes)
        rw [hr2] at hr
        injection hr with e1 e2
        subst e1 e2
        first
        | (intro g' c' t' f' hg' hc' u hu
           simp only [Value.ownBlock, Option.some.injEq] at hg'
           subst hg'
           have := heap_alloc_new w.drew (.cells (xs.toArray ++ news.toArray ++ Builtin.zeroCells z.cells (grownCap w (n + m) cap e - (n + m))) e)
           rw [show w.drew.heap.size = w.heap.size from rfl] at this
           rw [this] at hc'
           cases hc'
           rcases Array.mem_append.1 hu with h | h
           · rcases Array.mem_append.1 h with h | h
             · have h' : u ∈ xs := by simpa using h
               rw [← htake] at h'
               exact hold g cur e (0, 0) rfl hg u (by simpa using List.mem_of_mem_take h')
             · exact hnok u (by simpa using h)
           · exact hzok u (mem_zeroCells h))
        | (intro g' hg'; right; simpa [Value.ownBlock] using hg'.symm)
end
end Go.Proofs.Ytgbpgmbnihfkkaa

/- frame.word, frame.Put, walked -/
namespace Go.Proofs.Ytgbpgmbnihfkkaa
open Go.RowKit
theorem Try.infoByte : (Try.prog.info? 5).map (fun i => (i.zero, i.size, i.bytes)) = some (some (.int .u8 0), 1, 1) := by kernel_rfl
theorem u8s_length (l : List UInt8) : (u8s l).length = l.length := by simp [u8s]
theorem u8s_append (l m : List UInt8) : u8s (l ++ m) = u8s l ++ u8s m := by simp [u8s]
theorem u8s_get (l : List UInt8) (i : Nat) (h : i < l.length) : (u8s l)[i]? = some (.int .u8 ((l.getD i 0).toNat : Int)) := by
  simp [u8s, u8, List.getD_eq_getElem?_getD, h]
theorem u8s_one (l : List UInt8) : ∀ u ∈ u8s l, u.oneCell' = true := by
  intro u hu; simp only [u8s, List.mem_map] at hu; obtain ⟨c, _, rfl⟩ := hu; rfl
def isU8 (u : Value) : Prop := ∃ c : UInt8, u = .int .u8 (c.toNat : Int)
theorem isU8_u8s (l : List UInt8) : ∀ u, u ∈ u8s l → isU8 u := by
  intro u hu; simp only [u8s, List.mem_map] at hu; obtain ⟨c, _, rfl⟩ := hu; exact ⟨c, rfl⟩
/-- the slice v owns a row of the bytes l; whatever lies behind them in its block are bytes, too. -/
def OwnB (w : World) (base : Nat) (v : Value) (l : List UInt8) : Prop := w.ownsRow base 5 1 v l.length (u8s l) ∧ AllCells w v isU8
theorem OwnB.move {w w' : World} {base : Nat} {v : Value} {l : List UInt8} (h : OwnB w base v l) (hb : ∀ g, v.ownBlock = some g → w'.heap[g]? = w.heap[g]?) : OwnB w' base v l := ⟨ownsRow_move h.1 hb, h.2.move hb⟩
theorem OwnB.later {w w' : World} {base : Nat} {v : Value} {l : List UInt8} (h : OwnB w base v l) (hb : Below w.heap.size w w') : OwnB w' base v l := h.move fun g hg => hb.block g (h.1.lt g hg).2
theorem OwnB.kept {w w' : World} {base : Nat} {v : Value} {l : List UInt8} {row : Option Nat} (h : OwnB w base v l) (hg : w.grownBy w' row) (hne : ∀ g, v.ownBlock = some g → some g ≠ row) : OwnB w' base v l :=
  h.move fun g hv => hg.block g (h.1.lt g hv).2 (hne g hv)
theorem OwnB.base {w : World} {base base' : Nat} {v : Value} {l : List UInt8} (h : OwnB w base v l) (hb : base' ≤ base) : OwnB w base' v l := ⟨ownsRow_base h.1 hb, h.2⟩
theorem OwnB.nil (w : World) (base : Nat) : OwnB w base (.slice none 0 0) [] := ⟨World.ownsRow_nil _ _ _ _, fun g c t f hg => by simp [Value.ownBlock] at hg⟩
/-- an owned row of bytes reads as these bytes. -/
theorem OwnB.bytes {w : World} {base : Nat} {v : Value} {l : List UInt8} (h : OwnB w base v l) :
    ∃ ao cap, v = .slice ao l.length cap ∧ IsBytes w ao l.length cap l ∧ (∀ x, ao = some x → base ≤ x.block) := by
  rcases h.1.2 with ⟨rfl, h0⟩ | ⟨g, cap, cur, rfl, hb, hg, hn, hm, hs, ht⟩
  · have : l = [] := List.eq_nil_of_length_eq_zero h0
    subst this
    exact ⟨none, 0, rfl, IsBytes.nil w, fun x e => by cases e⟩
  · refine ⟨_, cap, rfl, ⟨rfl, hn, hm, fun _ => ⟨g, 0, rfl, fun i hi => ?_⟩, fun h => by cases h⟩, fun x e => by cases e; exact hb⟩
    have hc := h.1.cells (g := g) rfl i _ (u8s_get l i hi)
    have : (⟨g, 0, none⟩ : Addr).add i = ⟨g, 0 + i, none⟩ := by unfold Addr.add; split <;> simp_all
    rw [this] at hc; exact hc
theorem IsBytes.cells {w : World} {b off : Nat} {spot : Option Nat} {n cap : Nat} {l : List UInt8} (h : IsBytes w (some ⟨b, off, spot⟩) n cap l) :
    ∀ j u, (u8s l)[j]? = some u → w.cell? ((⟨b, off, spot⟩ : Addr).add j) = some u := by
  intro j u hu
  have hj : j < l.length := by
    have := (List.getElem?_eq_some_iff.1 hu).1; rwa [u8s_length] at this
  rw [u8s_get l j hj] at hu
  cases hu
  obtain ⟨b', off', e, hc⟩ := h.2.2.2.1 (by intro h0; rw [h0] at hj; simp at hj)
  cases e
  have : (⟨b, off, none⟩ : Addr).add j = ⟨b, off + j, none⟩ := by unfold Addr.add; split <;> simp_all
  rw [this]; exact hc j hj
/-- the four bytes that 'word' lays, as the walk reckons them. -/
theorem le4_vals (x : Nat) (hx : x < 4294967296) : u8s (Fr.le4 x) = [.int .u8 ((x : Int) % 256), .int .u8 ((x : Int) / 256 % 256), .int .u8 ((x : Int) / 65536 % 256), .int .u8 ((x : Int) / 16777216)] := by
  simp only [u8s, Fr.le4, List.map_cons, List.map_nil, u8, UInt8.toNat_ofNat']
  refine List.cons_eq_cons.2 ⟨?_, List.cons_eq_cons.2 ⟨?_, List.cons_eq_cons.2 ⟨?_, List.cons_eq_cons.2 ⟨?_, rfl⟩⟩⟩⟩ <;> (congr 1; try omega)
/-- 'append(own, src...)', whatever bytes src is, as an equation on its run. -/
theorem run_append_bytes {w : World} (ty base : Nat) (v : Value) (l : List UInt8) (hown : OwnB w base v l)
    (ao : Option Addr) (m c : Nat) (l2 : List UInt8) (hsrc : IsBytes w ao m c l2) (hnm : l.length + m ≤ 140737488355328) (hbase : base ≤ w.heap.size) :
    ∃ v' w', (Builtin.append_ #[30, 30] ty #[v, .slice ao m c]).run Try.prog w = .ok v' w' ∧ OwnB w' base v' (l ++ l2) ∧ w.grownBy w' v.ownBlock ∧ (∀ g, v'.ownBlock = some g → v.ownBlock = some g ∨ g = w.heap.size) := by
  obtain ⟨i0, hi, hz0, hz1, hz2⟩ := info_parts Try.infoByte
  have hl := hsrc.1
  cases ao with
  | none =>
    obtain ⟨rfl, rfl⟩ := hsrc.2.2.2.2 rfl
    obtain rfl : l2 = [] := List.eq_nil_of_length_eq_zero hl
    exact ⟨v, w, run_append_owned_none (P := Try.prog) (w := w) base _ ty _ i0 1 Try.underlying30 hi v _ _ hown.1, by rw [List.append_nil]; exact hown, ⟨rfl, rfl, rfl, Nat.le_refl _, fun _ _ _ => rfl⟩, fun g hg => .inl hg⟩
  | some ad =>
    obtain ⟨b, off, spot⟩ := ad
    obtain ⟨v', w', hr, h2, h3, h4, _, h6⟩ := run_append_all (P := Try.prog) w base 30 ty _ i0 (.int .u8 0) 1 1 Try.underlying30 hi hz0 hz1 hz2 rfl (by decide) v _ _ hown.1 _ m c (u8s l2) (by rw [u8s_length]; omega) hsrc.cells (u8s_one _) (by unfold maxLen; omega) (by omega) hbase
      isU8 (fun u hu => ⟨0, by simpa [Value.cells] using hu⟩) (isU8_u8s l2) hown.2
    refine ⟨v', w', hr, ⟨?_, h4⟩, h3, h6⟩
    rw [u8s_append, List.length_append, hl]; exact h2
theorem wpList_append_bytes {w : World} {ops : Array Oper} {rest : List Oper} {o : Oper} {a : Act} {Q : Exit → Act → World → Prop} (hgd : o.guard = none) (s x : Operand)
    (ho : o.op = .call { callee := .builtin .append, args := #[s, x], argTypes := #[30, 30] })
    (base : Nat) (v : Value) (l : List UInt8) (hs : a.eval s = v) (hown : OwnB w base v l)
    (ao : Option Addr) (m c : Nat) (l2 : List UInt8) (hx : a.eval x = .slice ao m c) (hsrc : IsBytes w ao m c l2) (hnm : l.length + m ≤ 140737488355328) (hbase : base ≤ w.heap.size)
    (h : ∀ v' w', OwnB w' base v' (l ++ l2) → w.grownBy w' v.ownBlock → wpList Try.prog ops Q rest (a.put o.dst v') w') : wpList Try.prog ops Q (o :: rest) a w := by
  obtain ⟨v', w', hr, h2, h3, _⟩ := run_append_bytes o.type base v l hown ao m c l2 hsrc hnm hbase
  refine wpList_plain hgd fun K hK => ?_
  unfold Oper.wp execOp
  simp only [ho, resolve, invoke, builtin, Sem.run_bind, Sem.run_pure, Result.andThen_ok, List.map_toArray, List.map_cons, List.map_nil, hs, hx, hr]
  exact hK _ _ (h v' w' h2 h3)
set_option maxRecDepth 100000 in
set_option maxHeartbeats 400000 in
theorem word_any (base x : Nat) (v : Value) (l : List UInt8) (w : World) (hx : x < 4294967296) (hown : OwnB w base v l) (hbase : base ≤ w.heap.size) (hn : l.length ≤ 1000000) :
    Calls Try.prog 37 #[v, .int .u32 (x : Int)] w fun e w' => ∃ v', e = .returned v' ∧ OwnB w' base v' (l ++ Fr.le4 x) ∧ Below base w w' := by
  go_enter Try.func37, Try.ntmps37
  have hnews : ∀ (W : World) (a b c d : Value), IsBytes W none 0 0 [] → [a, b, c, d] = u8s (Fr.le4 x) → IsBytes (W.alloc (.cells #[a, b, c, d] 5)) (some ⟨W.heap.size, 0, none⟩) 4 4 (Fr.le4 x) := by
    intro W a b c d _ he
    refine ⟨rfl, Nat.le_refl _, by unfold maxLen; omega, fun _ => ⟨_, _, rfl, fun i hi => ?_⟩, fun h => by cases h⟩
    rw [cell_of_row _ _ _ _ _ _ (heap_alloc_new W _), ← u8s_get _ i hi, ← he]; simp
  go_wp2_with (at_builtin; refine wpList_append_bytes rfl _ _ rfl base v l rfl (hown.later ((Below.refl _ _).alloc (Nat.le_refl _) _)) (some ⟨w.heap.size, 0, none⟩) 4 4 (Fr.le4 x) rfl ?c1 (by omega) ?c2 ?_)
  case c1 => exact hnews _ _ _ _ _ (IsBytes.nil _) (le4_vals x hx).symm
  case c2 => simp; omega
  intro v' w1 hown' hgrow
  go_wp2
  go_ret
  exact ⟨v', rfl, hown', ((Below.refl base w).alloc hbase _).grown hgrow (by simp; omega) (fun k hk => (hown.1.lt k hk).1)⟩
theorem Put_long (ao : Option Addr) (n cap : Nat) (w : World) (hn : 65536 < n) (hcm : n ≤ 9223372036854775807) :
    Calls Try.prog 16 #[.slice ao n cap] w fun e w' => e = .returned (.tuple #[.slice none 0 0, .int .i64 3]) ∧ w = w' := by
  have hp : (65536 : Int) < (n : Int) := by omega
  go_enter Try.func16, Try.ntmps16
  go_wp2
  go_ret2
  exact ⟨rfl, rfl⟩
set_option maxRecDepth 100000 in
set_option maxHeartbeats 400000 in
theorem Put_any (ao : Option Addr) (n cap : Nat) (l : List UInt8) (w : World) (hs : IsBytes w ao n cap l) (hn : n ≤ 65536) :
    Calls Try.prog 16 #[.slice ao n cap] w fun e w' => ∃ v, e = .returned (.tuple #[v, .int .i64 0]) ∧ OwnB w' w.heap.size v (Fr.putF l) ∧ Below w.heap.size w w' := by
  have hl := hs.1
  have hp : (n : Int) ≤ 65536 := by omega
  have e4 : Fr.putF l = Fr.le4 n ++ Fr.le4 (4294967295 - n) ++ l ++ Fr.le4 (Fr.sumB l).toNat := by rw [← hl]; rfl
  have E4 := Lib.hid e4
  clear e4
  have HL := Lib.hid hl
  clear hl
  go_enter Try.func16, Try.ntmps16
  go_wp2_with fail
  refine (word_any w.heap.size n (.slice none 0 0) [] _ (by omega) (OwnB.nil _ _) (Nat.le_refl _) (by simp)).mono ?_
  rintro e w1 ⟨v1, rfl, hown1, hb1⟩
  have hnot := Fr.not_nat n (by omega)
  go_wp2_with fail
  clear hnot
  rw [List.nil_append] at hown1
  refine (word_any w.heap.size (4294967295 - n) v1 _ _ (by omega) hown1 hb1.size (by simp [Fr.le4])).mono ?_
  rintro e w2 ⟨v2, rfl, hown2, hb2⟩
  have hb12 := hb1.trans hb2
  have hs2 : IsBytes w2 ao n cap l := hs.later hb12
  have hbs := hb12.size
  go_wp2_with (at_builtin; refine wpList_append_bytes rfl _ _ rfl w.heap.size v2 _ rfl hown2 _ _ _ l rfl hs2 (by simp [Fr.le4]; omega) hb12.size ?_; intro v3 w3 hown3 hg3)
  have hb3 : Below w.heap.size w w3 := hb12.grown hg3 hb12.size (fun k hk => (hown2.1.lt k hk).1)
  refine (Sum_any _ _ _ l _ (hs.later hb3)).mono ?_
  rintro e w4 ⟨rfl, hb4⟩
  have hown4 := hown3.later hb4
  have hb34 := hb3.trans (hb4.mono hb3.size)
  have hlim := (Fr.sumB l).isLt
  go_wp2_with fail
  refine (word_any w.heap.size (Fr.sumB l).toNat v3 _ _ hlim hown4 hb34.size (by have := HL.out; simp [Fr.le4]; omega)).mono ?_
  rintro e w5 ⟨v5, rfl, hown5, hb5⟩
  go_wp2_with fail
  go_ret2
  exact ⟨v5, rfl, by rw [E4.out]; exact hown5, hb34.trans hb5⟩
end Go.Proofs.Ytgbpgmbnihfkkaa

/- slices of slices of bytes -/
namespace Go.Proofs.Ytgbpgmbnihfkkaa
open Go.RowKit
theorem IsBytes.add {w : World} {ao : Option Addr} {n cap : Nat} {l : List UInt8} (h : IsBytes w ao n cap l) (lo : Nat) (hlo : lo ≤ n) :
    IsBytes w (if cap = lo then ao else ao.map (·.add (lo * 1))) (n - lo) (cap - lo) (l.drop lo) := by
  obtain ⟨h1, h2, h3, h4, h5⟩ := h
  refine ⟨by simp; omega, by omega, by omega, ?_, ?_⟩
  · intro hl
    have hlt : lo < n := by
      have : 0 < (l.drop lo).length := by cases hq : l.drop lo; exact absurd hq hl; simp
      simp at this; omega
    obtain ⟨b, off, e, hc⟩ := h4 (by intro h0; rw [h0] at h1; simp at h1; omega)
    rw [if_neg (by omega), e]
    have hadd : (⟨b, off, none⟩ : Addr).add (lo * 1) = ⟨b, off + lo, none⟩ := by rw [Nat.mul_one]; unfold Addr.add; split <;> simp_all
    exact ⟨b, off + lo, by rw [Option.map_some, hadd], hc.drop lo⟩
  · intro hn
    have : ao = none := by
      split at hn
      · exact hn
      · simpa using hn
    have := h5 this
    omega
theorem IsBytes.cut {w : World} {ao : Option Addr} {n cap : Nat} {l : List UInt8} (h : IsBytes w ao n cap l) (hi : Nat) (hhi : hi ≤ n) :
    IsBytes w ao hi cap (l.take hi) := by
  obtain ⟨h1, h2, h3, h4, h5⟩ := h
  refine ⟨by simp; omega, by omega, h3, ?_, fun e => by have := h5 e; omega⟩
  intro hl
  obtain ⟨b, off, e, hc⟩ := h4 (by intro h0; rw [h0] at hl; simp at hl)
  exact ⟨b, off, e, hc.take hi⟩
theorem add_block (ao : Option Addr) (c lo k : Nat) : (if c = lo then ao else ao.map (·.add k)).map (·.block) = ao.map (·.block) := by
  split
  · rfl
  · cases ao with
    | none => rfl
    | some a => simp only [Option.map_some, Addr.add]; split <;> rfl
/-- 'b[lo:]'. -/
theorem slice_from {w : World} {ao : Option Addr} {n cap : Nat} {l : List UInt8} (h : IsBytes w ao n cap l) (lo : Nat) (hlo : lo ≤ n) :
    ∃ ao', (∀ w', (Instr.slice 30 (.slice ao n cap) (some (.int .i64 (lo : Int))) none none).run Try.prog w' = .ok (.slice ao' (n - lo) (cap - lo)) w') ∧ IsBytes w ao' (n - lo) (cap - lo) (l.drop lo) ∧ ao'.map (·.block) = ao.map (·.block) := by
  obtain ⟨i0, hi, hz0, hz1, hz2⟩ := info_parts Try.infoByte
  have h2 := h.2.1
  refine ⟨_, fun w' => ?_, h.add lo hlo, add_block _ _ _ _⟩
  have e1 : (Instr.sliceBounds true n cap (some (.int .i64 (lo : Int))) none none).run Try.prog w' = .ok (lo, n, cap) w' := by
    simp [Instr.sliceBounds, Instr.sliceBound, asIntOf, hlo]
  simp [Instr.slice, run_underlying Try.underlying30, e1, sizeOf, typeInfo, hi, hz1, Result.andThen]
/-- 'b[:hi]'. -/
theorem slice_to {w : World} {ao : Option Addr} {n cap : Nat} {l : List UInt8} (h : IsBytes w ao n cap l) (hi : Nat) (hhi : hi ≤ n) :
    (∀ w', (Instr.slice 30 (.slice ao n cap) none (some (.int .i64 (hi : Int))) none).run Try.prog w' = .ok (.slice ao hi cap) w') ∧ IsBytes w ao hi cap (l.take hi) := by
  obtain ⟨i0, hi0, hz0, hz1, hz2⟩ := info_parts Try.infoByte
  have h2 := h.2.1
  have hle : hi ≤ cap := by omega
  refine ⟨fun w' => ?_, h.cut hi hhi⟩
  have e1 : (Instr.sliceBounds true n cap none (some (.int .i64 (hi : Int))) none).run Try.prog w' = .ok (0, hi, cap) w' := by
    simp [Instr.sliceBounds, Instr.sliceBound, asIntOf, hle]
  simp [Instr.slice, run_underlying Try.underlying30, e1, sizeOf, typeInfo, hi0, Result.andThen]
  cases ao with
  | none => simp
  | some a => simp [Addr.add]
/-- 'b[lo:hi]'. -/
theorem slice_both {w : World} {ao : Option Addr} {n cap : Nat} {l : List UInt8} (h : IsBytes w ao n cap l) (lo hi : Nat) (hlo : lo ≤ hi) (hhi : hi ≤ n) :
    ∃ ao', (∀ w', (Instr.slice 30 (.slice ao n cap) (some (.int .i64 (lo : Int))) (some (.int .i64 (hi : Int))) none).run Try.prog w' = .ok (.slice ao' (hi - lo) (cap - lo)) w') ∧ IsBytes w ao' (hi - lo) (cap - lo) ((l.take hi).drop lo) ∧ ao'.map (·.block) = ao.map (·.block) := by
  obtain ⟨i0, hi0, hz0, hz1, hz2⟩ := info_parts Try.infoByte
  have h2 := h.2.1
  have hle : hi ≤ cap := by omega
  refine ⟨_, fun w' => ?_, (h.cut hi hhi).add lo hlo, add_block _ _ _ _⟩
  have e1 : (Instr.sliceBounds true n cap (some (.int .i64 (lo : Int))) (some (.int .i64 (hi : Int))) none).run Try.prog w' = .ok (lo, hi, cap) w' := by
    simp [Instr.sliceBounds, Instr.sliceBound, asIntOf, hle, hlo]
  simp [Instr.slice, run_underlying Try.underlying30, e1, sizeOf, typeInfo, hi0, hz1, Result.andThen]
end Go.Proofs.Ytgbpgmbnihfkkaa
