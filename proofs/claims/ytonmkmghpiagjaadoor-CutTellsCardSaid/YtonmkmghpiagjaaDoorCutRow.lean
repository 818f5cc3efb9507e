/- A slice of the call's own that has been cut at its front: read, grown by append. Bounds as said. -/
import Derived.Test.YtonmkmghpiagjaaDoorOwn
import Derived.Maps.AppendAt
namespace Go.Proofs.YtonmkmghpiagjaaDoor
open Go.RowKit

/-- A row of the call's own of which the first o elements have been cut away. -/
def OffRow (w : World) (base : Nat) (e : TypeId) (size : Nat) (v : Value) (n : Nat) (xs : List Value) : Prop :=
  xs.length = n * size ∧ ∃ g o cap cur, v = .slice (some ⟨g, o * size, none⟩) n cap ∧ base ≤ g ∧ w.heap[g]? = some (.cells cur e (0, 0)) ∧ n ≤ cap ∧ cap ≤ maxLen ∧ (o + cap) * size ≤ cur.size ∧ (cur.toList.drop (o * size)).take (n * size) = xs
section
variable {w w' : World} {base : Nat} {e : TypeId} {size : Nat} {v : Value} {n : Nat} {xs : List Value}
theorem OffRow.form (h : OffRow w base e size v n xs) : ∃ g o c, v = .slice (some ⟨g, o * size, none⟩) n c ∧ base ≤ g ∧ g < w.heap.size ∧ n ≤ c := by
  obtain ⟨_, g, o, cap, cur, rfl, hb, hg, h1, _⟩ := h
  exact ⟨g, o, cap, rfl, hb, (Array.getElem?_eq_some_iff.1 hg).1, h1⟩
theorem OffRow.same (h : OffRow w base e size v n xs) (hs : ∀ g, v.ownBlock = some g → w'.heap[g]? = w.heap[g]?) : OffRow w' base e size v n xs := by
  obtain ⟨hl, g, o, cap, cur, rfl, hb, hg, rest⟩ := h
  exact ⟨hl, g, o, cap, cur, rfl, hb, by rw [hs g rfl]; exact hg, rest⟩
theorem OffRow.lt (h : OffRow w base e size v n xs) {g : Nat} (hg : v.ownBlock = some g) : base ≤ g ∧ g < w.heap.size := by
  obtain ⟨_, g', o, cap, cur, rfl, hb, hgg, _⟩ := h
  simp [Value.ownBlock] at hg
  subst hg
  exact ⟨hb, (Array.getElem?_eq_some_iff.1 hgg).1⟩
theorem OffRow.cell {g o c : Nat} (h : OffRow w base e size (.slice (some ⟨g, o, none⟩) n c) n xs) {j : Nat} {u : Value} (hj : xs[j]? = some u) : w.cell? ⟨g, o + j, none⟩ = some u := by
  obtain ⟨_, g', o', cap, cur, hv, _, hg, _, _, _, htake⟩ := h
  injection hv with hv _ _
  injection hv with hv
  injection hv with h1 h2 _
  subst h1 h2
  rw [cell_of_row w g _ cur e (0, 0) hg]
  rw [← htake, List.getElem?_take] at hj
  split at hj
  · rw [List.getElem?_drop] at hj
    simpa using hj
  · cases hj
theorem offRow_of_own {g c : Nat} (h : w.ownsRow base e size (.slice (some ⟨g, 0, none⟩) n c) n xs) : OffRow w base e size (.slice (some ⟨g, 0, none⟩) n c) n xs := by
  refine ⟨h.1, ?_⟩
  rcases h.2 with ⟨h', _⟩ | ⟨g', cap, cur, h1, h2, h3, h4, h5, h6, h7⟩
  · cases h'
  · exact ⟨g', 0, cap, cur, by rw [Nat.zero_mul]; exact h1, h2, h3, h4, h5, by rw [Nat.zero_add, h6]; exact Nat.le_refl _, by rw [Nat.zero_mul, List.drop_zero]; exact h7⟩
/-- One element cut away: the address stands where no room is left. -/
theorem OffRow.tail {g o c : Nat} (h : OffRow w base e size (.slice (some ⟨g, o, none⟩) (n + 1) c) (n + 1) xs) : OffRow w base e size (.slice (some ⟨g, if c = 1 then o else o + size, none⟩) n (c - 1)) n (xs.drop size) := by
  obtain ⟨hl, g', o', cap, cur, hv, hb, hg, h1, h2, h3, h4⟩ := h
  injection hv with hv _ hc
  injection hv with hv
  injection hv with e1 e2 _
  subst e1 e2 hc
  have hld : (xs.drop size).length = n * size := by rw [List.length_drop, hl, Nat.add_mul]; omega
  refine ⟨hld, ?_⟩
  by_cases hc : c = 1
  · have hn : n = 0 := by omega
    subst hn
    rw [if_pos hc]
    refine ⟨g, o', c - 1, cur, rfl, hb, hg, by omega, by omega, Nat.le_trans (Nat.mul_le_mul_right _ (by omega)) h3, ?_⟩
    rw [List.eq_nil_of_length_eq_zero (by rw [hld, Nat.zero_mul] : (xs.drop size).length = 0), Nat.zero_mul, List.take_zero]
  · rw [if_neg hc]
    refine ⟨g, o' + 1, c - 1, cur, by rw [Nat.add_mul, Nat.one_mul], hb, hg, by omega, by omega, by rw [show o' + 1 + (c - 1) = o' + c by omega]; exact h3, ?_⟩
    rw [← h4, List.drop_take, List.drop_drop]
    congr 1
    · rw [Nat.add_mul]; omega
    · rw [Nat.add_mul, Nat.one_mul]
theorem run_slice_tail {P : Program} {t : TypeId} {i : TypeInfo} (ht : P.underlying t = some (.slice e)) (hi : P.info? e = some i) (hs : i.size = size) {g o c : Nat} (hc : n + 1 ≤ c) (W : World) :
    (Instr.slice t (.slice (some ⟨g, o, none⟩) (n + 1) c) (some (.int .i64 1)) none none).run P W = .ok (.slice (some ⟨g, if c = 1 then o else o + size, none⟩) n (c - 1)) W := by
  have h1 : ¬ c < n + 1 := by omega
  by_cases h : c = 1
  · subst h
    have hn : n = 0 := by omega
    subst hn
    simp [Instr.slice, run_underlying ht, Instr.sliceBounds, Instr.sliceBound, asIntOf, sizeOf, typeInfo, hi, Addr.add_lit]
  · have h2 : ¬ ((n : Int) + 1 < 1) := by omega
    simp [Instr.slice, run_underlying ht, Instr.sliceBounds, Instr.sliceBound, asIntOf, sizeOf, typeInfo, hi, hs, Addr.add_lit, h, h2]
end
section
variable {P : Program} (w : World)
theorem run_append_room_off (t ty e : TypeId) (i : TypeInfo) (ht : P.underlying t = some (.slice e)) (hi : P.info? e = some i)
    (g o sLen sCap : Nat) (cur : Array Value) (hg : w.heap[g]? = some (.cells cur e (0, 0)))
    (a : Addr) (m c : Nat) (news : List Value) (hl : news.length = m * i.size) (hnews : ∀ j u, news[j]? = some u → w.cell? (a.add j) = some u) (h1 : ∀ u ∈ news, u.oneCell' = true)
    (hroom : sLen + m ≤ sCap) (hfit : o + sLen * i.size + news.length ≤ cur.size) :
    (Builtin.append_ #[t, t] ty #[.slice (some ⟨g, o, none⟩) sLen sCap, .slice (some a) m c]).run P w =
      .ok (.slice (some ⟨g, o, none⟩) (sLen + m) sCap) (w.setRow g (cur.toList.take (o + sLen * i.size) ++ news ++ cur.toList.drop (o + sLen * i.size + news.length)).toArray) := by
  have hf := run_firstCells_some (P := P) w i.size m a m c news hl hnews
  have hst := run_storeCells_at P g (o + sLen * i.size) e news 0 cur w hg (by simpa using hfit) h1
  simp only [Nat.add_zero] at hst
  simp [Builtin.append_, run_underlying ht, sizeOf, typeInfo, hi, Builtin.lenOf, hroom, hf, Addr.add_lit, hst]
theorem run_append_off (base : Nat) (t ty e : TypeId) (i : TypeInfo) (z : Value) (size bytes : Nat) (ht : P.underlying t = some (.slice e)) (hi : P.info? e = some i) (hz : i.zero = some z)
    (hsize : i.size = size) (hby : i.bytes = bytes) (hzs : z.cells.size = size)
    (v : Value) (n : Nat) (xs : List Value) (hown : OffRow w base e size v n xs)
    (a : Addr) (m c : Nat) (news : List Value) (hl : news.length = m * size) (hnews : ∀ j u, news[j]? = some u → w.cell? (a.add j) = some u) (h1 : ∀ u ∈ news, u.oneCell' = true)
    (h63 : n + m ≤ maxLen) (hbytes : (n + m) * bytes ≤ 140737488355328) (hbase : base ≤ w.heap.size) :
    ∃ v' w', (Builtin.append_ #[t, t] ty #[v, .slice (some a) m c]).run P w = .ok v' w' ∧ OffRow w' base e size v' (n + m) (xs ++ news) ∧ w.grownBy w' v.ownBlock ∧ (v'.ownBlock = v.ownBlock ∨ v'.ownBlock = some w.heap.size) := by
  subst hsize
  subst hby
  have hsmall : n + m ≤ 9223372036854775807 := by simp only [maxLen] at h63; omega
  have hlen : (xs ++ news).length = (n + m) * i.size := by rw [List.length_append, hown.1, hl, Nat.add_mul]
  have hxl := hown.1
  obtain ⟨_, g, o, cap, cur, rfl, hbg, hg, hnc, hcm, hcs, htake⟩ := hown
  by_cases hroom : n + m ≤ cap
  · have hfit : o * i.size + n * i.size + news.length ≤ cur.size := by rw [hl, ← Nat.add_mul, ← Nat.add_mul]; exact Nat.le_trans (Nat.mul_le_mul_right _ (by omega)) hcs
    have hr := run_append_room_off (P := P) w t ty e i ht hi g (o * i.size) n cap cur hg a m c news hl hnews h1 hroom hfit
    refine ⟨_, _, hr, ⟨hlen, g, o, cap, _, rfl, hbg, setRow_heap w g cur _ e _ hg, hroom, hcm, ?_, ?_⟩, ⟨rfl, rfl, rfl, by simp [World.setRow], fun k _ hk => setRow_other w g k _ (fun e => hk (by simp [Value.ownBlock, e]))⟩, Or.inl rfl⟩
    · simp only [List.size_toArray, List.length_append, List.length_take, List.length_drop, Array.length_toList]
      omega
    · have h5 : cur.toList.take (o * i.size + n * i.size) = cur.toList.take (o * i.size) ++ xs := by
        rw [List.take_add, htake]
      show ((cur.toList.take (o * i.size + n * i.size) ++ news ++ cur.toList.drop (o * i.size + n * i.size + news.length)).drop (o * i.size)).take ((n + m) * i.size) = xs ++ news
      have h6 : (cur.toList.take (o * i.size)).length = o * i.size := by rw [List.length_take, Array.length_toList]; omega
      rw [h5, List.append_assoc, List.append_assoc, List.drop_left' h6, ← List.append_assoc, ← hlen]
      exact List.take_left
  · have holds : ∀ j u, xs[j]? = some u → w.cell? ((⟨g, o * i.size, none⟩ : Addr).add j) = some u := fun j u hu => by
      rw [Addr.add_lit]
      exact OffRow.cell (base := base) (c := cap) ⟨hxl, g, o, cap, cur, rfl, hbg, hg, hnc, hcm, hcs, htake⟩ hu
    have hr := run_append_grow (P := P) w t ty e i z ht hi hz ⟨g, o * i.size, none⟩ n cap xs hxl holds a m c news hl hnews (by omega) (by omega) (growslice_fits (by omega) hbytes)
    have hge := grownCap_ge w (n + m) cap e
    have hcm2 : grownCap w (n + m) cap e ≤ maxLen := grownCap_le_maxLen w (n + m) cap e h63
    refine ⟨_, _, hr, ⟨hlen, w.heap.size, 0, _, _, by rw [Nat.zero_mul], hbase, heap_alloc_new w.drew _, hge, hcm2, ?_, ?_⟩, ⟨rfl, rfl, rfl, by simp, fun k hk _ => heap_alloc_old w.drew _ hk⟩, Or.inr rfl⟩
    · refine Nat.le_of_eq ?_
      simp only [Array.size_append, List.size_toArray, size_zeroCells, hzs, hxl, hl, ← Nat.add_mul, Nat.zero_add]
      congr 1
      omega
    · simp only [Array.toList_append, List.append_assoc, Nat.zero_mul, List.drop_zero]
      rw [← List.append_assoc, ← hlen]
      exact List.take_left
end
theorem wpList_push_off {P : Program} {ops : Array Oper} {rest : List Oper} {o : Oper} {a : Act} {Q : Exit → Act → World → Prop} (w : World) (hgd : o.guard = none) (s x : Operand) (t : TypeId)
    (ho : o.op = .call { callee := .builtin .append, args := #[s, x], argTypes := #[t, t] })
    (base : Nat) (e : TypeId) (i : TypeInfo) (z : Value) (size bytes : Nat) (ht : P.underlying t = some (.slice e)) (hi : P.info? e = some i) (hz : i.zero = some z)
    (hsize : i.size = size) (hby : i.bytes = bytes) (hzs : z.cells.size = size)
    (v : Value) (n : Nat) (xs : List Value) (hs : a.eval s = v) (hown : OffRow w base e size v n xs)
    (ad : Addr) (m c : Nat) (news : List Value) (hx : a.eval x = .slice (some ad) m c) (hl : news.length = m * size) (hnews : ∀ j u, news[j]? = some u → w.cell? (ad.add j) = some u) (h1 : ∀ u ∈ news, u.oneCell' = true)
    (h63 : n + m ≤ maxLen) (hbytes : (n + m) * bytes ≤ 140737488355328) (hbase : base ≤ w.heap.size)
    (h : ∀ v' w', OffRow w' base e size v' (n + m) (xs ++ news) → w.grownBy w' v.ownBlock → (v'.ownBlock = v.ownBlock ∨ v'.ownBlock = some w.heap.size) → wpList P ops Q rest (a.put o.dst v') w') :
    wpList P ops Q (o :: rest) a w := by
  refine wpList_plain hgd fun K hK => ?_
  obtain ⟨v', w', hr, h2, h3, h4⟩ := run_append_off (P := P) w base t o.type e i z size bytes ht hi hz hsize hby hzs v n xs hown ad m c news hl hnews h1 h63 hbytes hbase
  unfold Oper.wp execOp
  simp only [ho, resolve, invoke, builtin, Sem.run_bind, Sem.run_pure, Result.andThen_ok, List.map_toArray, List.map_cons, List.map_nil, hs, hx, hr]
  exact hK _ _ (h v' w' h2 h3 h4)
end Go.Proofs.YtonmkmghpiagjaaDoor
