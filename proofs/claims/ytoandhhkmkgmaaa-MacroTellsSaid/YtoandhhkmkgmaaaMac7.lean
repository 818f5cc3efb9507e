/- Macros as they come in; a table that gets one entry more. No condition. -/
import Derived.Test.YtoandhhkmkgmaaaMacTab
import Derived.Test.YtoandhhkmkgmaaaTwo
namespace Go.Proofs.Ytoandhhkmkgmaaa
open Go.RowKit Go.ChangeMaps

/-- Macros as they lie. -/
def macV (l : List MacT) : List Value := l.flatMap fun x => [sv x.1, sv x.2]
theorem setB_cell {w : World} {bm k : Nat} (o : Obj) (h : k ≠ bm) (j : Nat) : (setBlock w bm o).cell? ⟨k, j, none⟩ = w.cell? ⟨k, j, none⟩ := by
  unfold World.cell?
  rw [setB_other _ _ h]
def insM (T : List EntM) (n : List UInt8) (b : Nat) : SMapT := tabS T ++ [(n, Value.pointer (some ⟨b, 0, none⟩))]
theorem TabAt.snoc {w : World} {bm : Nat} {T : List EntM} (h : TabAt w bm T) (e : EntM) (hn : e.nm ∉ namesT T) (h40 : e.nm.length ≤ 40) (hb : e.blk = w.heap.size) (hu : Rd w e.A (e.us.map sv)) (hs : e.flat.length ≤ 2000)
    (hf : ∀ g o f, e.A = some ⟨g, o, f⟩ → 0 < e.us.length → ∀ x ∈ T, g ≠ x.blk) :
    TabAt (setBlock (w.alloc (.cells (entC e).toArray 62)) bm (.map (entS (insM T e.nm w.heap.size)) (insM T e.nm w.heap.size).length)) bm (T ++ [e]) := by
  have hlt := h.mp.lt
  have hbel : Below w.heap.size w (w.alloc (.cells (entC e).toArray 62)) := (Below.refl _ _).alloc (Nat.le_refl _) _
  have h1 := h.below hbel
  have hkeep : ∀ k, k ≠ bm → (setBlock (w.alloc (.cells (entC e).toArray 62)) bm (.map (entS (insM T e.nm w.heap.size)) (insM T e.nm w.heap.size).length)).heap[k]? = (w.alloc (.cells (entC e).toArray 62)).heap[k]? := fun k hk => setB_other _ _ hk
  have htab : tabS (T ++ [e]) = insM T e.nm w.heap.size := by unfold insM tabS; rw [List.map_append, ← hb]; rfl
  have hblt : ∀ x ∈ T, x.blk < w.heap.size := fun x hx => (h.blk x hx).lt
  have hnew : Blk (w.alloc (.cells (entC e).toArray 62)) w.heap.size 62 (entC e) := by
    have := Blk.new w (entC e).toArray 62
    simpa using this
  have hrd : ∀ {A : Option Addr} {xs : List Value}, Rd w A xs → Rd (setBlock (w.alloc (.cells (entC e).toArray 62)) bm (.map (entS (insM T e.nm w.heap.size)) (insM T e.nm w.heap.size).length)) A xs := fun {A xs} hr hp => by
    obtain ⟨b, off, h1, h2, h3⟩ := hr hp
    refine ⟨b, off, h1, by rw [setB_size]; simp; omega, fun j u hj => ?_⟩
    have h4 := h3 j u hj
    have hne : b ≠ bm := fun e => by
      subst e
      have := h.mp
      unfold MapS at this
      unfold World.cell? at h4
      rw [this] at h4
      cases h4
    rw [setB_cell _ hne, hbel.cell (p := ⟨b, off + j, none⟩) h2]
    exact h4
  refine ⟨?_, ?_, ?_, fun x hx => ?_, fun x hx => ?_, ?_, fun x hx y hy g o f hA hl => ?_, fun x hx => ?_, fun x hx => ?_⟩
  · rw [htab]
    exact mapS_put h1.mp _
  · unfold namesT
    rw [List.map_append, List.nodup_append]
    exact ⟨h.nd, by simp, fun a ha b hb' e' => by
      simp only [List.map_cons, List.map_nil, List.mem_singleton] at hb'
      subst hb'; subst e'; exact hn ha⟩
  · intro n hm
    unfold namesT at hm
    rw [List.map_append] at hm
    rcases List.mem_append.1 hm with hm | hm
    · exact h.k40 n hm
    · simp only [List.map_cons, List.map_nil, List.mem_singleton] at hm
      rw [hm]; exact h40
  · rcases List.mem_append.1 hx with hx | hx
    · unfold Blk
      rw [hkeep _ (h.far2 x hx)]
      exact h1.blk x hx
    · rw [List.mem_singleton.1 hx]
      unfold Blk
      rw [hb, hkeep _ (by omega)]
      exact hnew
  · rcases List.mem_append.1 hx with hx | hx
    · exact hrd (h.us x hx)
    · rw [List.mem_singleton.1 hx]
      exact hrd hu
  · rw [List.map_append, List.nodup_append]
    exact ⟨h.bd, by simp, fun a ha b hb' e' => by
      simp only [List.map_cons, List.map_nil, List.mem_singleton] at hb'
      subst hb'; subst e'
      obtain ⟨x, hx, hxe⟩ := List.mem_map.1 ha
      have := hblt x hx
      omega⟩
  · have hgl : ∀ z ∈ T ++ [e], z.A = some ⟨g, o, f⟩ → 0 < z.us.length → g < w.heap.size := fun z hz hzA hzl => by
      have hr : Rd w z.A (z.us.map sv) := by
        rcases List.mem_append.1 hz with hz | hz
        · exact h.us z hz
        · rw [List.mem_singleton.1 hz]; exact hu
      obtain ⟨b, off, h1, h2, _⟩ := hr (by simpa using hzl)
      rw [hzA] at h1
      injection h1 with h1
      injection h1 with h1 _ _
      omega
    have hg := hgl x hx hA hl
    rcases List.mem_append.1 hy with hy | hy
    · rcases List.mem_append.1 hx with hx | hx
      · exact h.far x hx y hy g o f hA hl
      · rw [List.mem_singleton.1 hx] at hA hl
        exact hf g o f hA hl y hy
    · rw [List.mem_singleton.1 hy, hb]
      omega
  · rcases List.mem_append.1 hx with hx | hx
    · exact h.far2 x hx
    · rw [List.mem_singleton.1 hx, hb]; omega
  · rcases List.mem_append.1 hx with hx | hx
    · exact h.short x hx
    · rw [List.mem_singleton.1 hx]; exact hs
/-- The table so far. -/
structure NtAt (l : List MacT) (bm k : Nat) (T : List EntM) (w : World) : Prop where
  tab : TabAt w bm T
  pairs : T.map pairM = l.take k
  uses : ∀ e ∈ T, e.us = usesOf e.val
  zero : ∀ e ∈ T, e.st = 0
  ok : faultF [] (l.take k) = 0
  base : ∀ e ∈ T, bm < e.blk
theorem NtAt.below {l : List MacT} {bm k : Nat} {T : List EntM} {w w' : World} (h : NtAt l bm k T w) (hb : Below w.heap.size w w') : NtAt l bm k T w' := ⟨h.tab.below hb, h.pairs, h.uses, h.zero, h.ok, h.base⟩
theorem NtAt.names {l : List MacT} {bm k : Nat} {T : List EntM} {w : World} (h : NtAt l bm k T w) : namesL (l.take k) = namesT T := by
  unfold namesL namesT
  rw [← h.pairs, List.map_map]
  rfl
theorem good_le {n : List UInt8} (h : goodName n = true) : n.length ≤ 40 := by
  unfold goodName at h
  simp at h
  omega
/-- One more. -/
theorem NtAt.more {l : List MacT} {bm k : Nat} {T : List EntM} {w w1 w2 : World} {x : MacT} {A : Option Addr} {c : Nat} (h : NtAt l bm k T w) (hx : l[k]? = some x) (hg : goodName x.1 = true) (hp : (parseM x.2).2 = true) (hn : x.1 ∉ namesT T)
    (h1 : Below w.heap.size w w1) (h2 : Below w1.heap.size w1 w2) (hs : w.heap.size < w1.heap.size) (ho : w2.ownsRow (w1.heap.size + 1) 9 1 (.slice A (usesOf x.2).length c) (usesOf x.2).length ((usesOf x.2).map sv)) :
    (Instr.mapUpdate 58 (.map (some bm)) (sv x.1) (.pointer (some ⟨w2.heap.size, 0, none⟩))).run Try.prog (w2.alloc (.cells #[sv x.2, .slice A (usesOf x.2).length c, .int .i64 0, .string ⟨#[]⟩, .bool false] 62)) = .ok () (setBlock (w2.alloc (.cells #[sv x.2, .slice A (usesOf x.2).length c, .int .i64 0, .string ⟨#[]⟩, .bool false] 62)) bm (.map (entS (insM T x.1 w2.heap.size)) (insM T x.1 w2.heap.size).length)) ∧
    NtAt l bm (k + 1) (T ++ [⟨w2.heap.size, x.1, x.2, A, c, usesOf x.2, 0, [], false⟩]) (setBlock (w2.alloc (.cells #[sv x.2, .slice A (usesOf x.2).length c, .int .i64 0, .string ⟨#[]⟩, .bool false] 62)) bm (.map (entS (insM T x.1 w2.heap.size)) (insM T x.1 w2.heap.size).length)) := by
  have ht2 := (h.below h1).below h2
  have h40 := good_le hg
  have hrd : Rd w2 A ((usesOf x.2).map sv) := rd_of_ownK ho
  have hsn := ht2.tab.snoc ⟨w2.heap.size, x.1, x.2, A, c, usesOf x.2, 0, [], false⟩ hn h40 rfl hrd (by simp) (fun g o f hA hl y hy => by
    have hy' := (h.tab.blk y hy).lt
    simp only [] at hA hl
    subst hA
    have := (ho.lt g (by rfl)).1
    omega)
  have hlt := ht2.tab.mp.lt
  refine ⟨?_, hsn, ?_, fun e he => ?_, fun e he => ?_, ?_, fun e he => ?_⟩
  · exact run_newS strKindM mapKindM (ht2.tab.below ((Below.refl _ _).alloc (Nat.le_refl _) _)).mp (keysOkT h.tab.k40) x.1 _ (by unfold maxLen; omega) (by rw [keys_tabS]; exact hn)
  · rw [List.map_append, h.pairs, takeS_any hx]
    rfl
  · rcases List.mem_append.1 he with he | he
    · exact h.uses e he
    · rw [List.mem_singleton.1 he]
  · rcases List.mem_append.1 he with he | he
    · exact h.zero e he
    · rw [List.mem_singleton.1 he]
  · exact faultF_take hx h.ok (faultM_zero.2 ⟨hg, hp, by rw [List.nil_append, h.names]; exact hn⟩)
  · rcases List.mem_append.1 he with he | he
    · exact h.base e he
    · rw [List.mem_singleton.1 he]; exact hlt
end Go.Proofs.Ytoandhhkmkgmaaa
