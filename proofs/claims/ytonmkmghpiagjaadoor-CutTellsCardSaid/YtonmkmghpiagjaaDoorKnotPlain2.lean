/- Plain law of package knot, continued: all numbers walked; the tied parts in order. No condition. -/
import Derived.Test.YtonmkmghpiagjaaDoorKnotPlain
namespace Go.Proofs.YtonmkmghpiagjaaDoor

theorem pig2 : ∀ (L m : List Nat), L.Nodup → (∀ x ∈ L, x ∈ m) → L.length ≤ m.length
  | [], _, _, _ => Nat.zero_le _
  | a :: L, m, hn, hs => by
    have ha := hs a (List.mem_cons_self ..)
    rw [List.nodup_cons] at hn
    have h1 := pig2 L (m.erase a) hn.2 (fun x hx => (List.mem_erase_of_ne (fun e => hn.1 (by rw [← e]; exact hx))).2 (hs x (List.mem_cons_of_mem _ hx)))
    rw [List.length_erase_of_mem ha] at h1
    have := List.length_pos_of_mem ha
    rw [List.length_cons]
    omega
theorem TjInv.now_le {l : List Nat} {t : Tj} {P : Nat → Prop} (h : TjInv l t P) : t.now ≤ l.length := by
  have h1 := pig2 (List.range' 1 t.now) t.met List.nodup_range' (fun x hx => by
    rw [List.mem_range'_1] at hx
    exact h.sur x (by omega) (by omega))
  rw [List.length_range', h.ml] at h1
  exact h1
theorem TjInv.stk_lt {l : List Nat} {t : Tj} {P : Nat → Prop} (h : TjInv l t P) {j : Nat} (hj : j ∈ t.stk) : j < l.length := by
  have := m_lt (h.stm j hj)
  rw [h.ml] at this
  exact this
theorem TjInv.stk_le {l : List Nat} {t : Tj} {P : Nat → Prop} (h : TjInv l t P) : t.stk.length ≤ l.length := by
  have h1 := pig2 t.stk (List.range l.length) h.nd (fun x hx => List.mem_range.2 (h.stk_lt hx))
  rw [List.length_range] at h1
  exact h1
/-- What a walk from a number's need may take for granted. -/
theorem kid_args {l : List Nat} {t u : Tj} {P : Nat → Prop} {i k f : Nat} {ks seg U : List Nat} (hi : i < l.length) (h0 : t.m i = 0) (hP : ∀ x, P x → Pt l x i) (hU : ∀ j, j < l.length → t.m j = 0 → j ∈ U) (hl : U.length ≤ f + 1)
    (h : Lp l t P i ks u seg) (he : Ed l i k) : (∀ x, (x = i ∨ P x) → Pt l x k) ∧ (∀ j, j < l.length → u.m j = 0 → j ∈ U.erase i) ∧ (U.erase i).length ≤ f := by
  refine ⟨?_, ?_, ?_⟩
  · rintro x (rfl | hx)
    · exact Ed.pt he
    · exact (hP x hx).edge he
  · intro j hj hj0
    have hji : j ≠ i := fun e => by have := h.me; rw [e] at hj0; omega
    refine (List.mem_erase_of_ne hji).2 (hU j hj ?_)
    apply Classical.byContradiction
    intro hc
    have := h.old j (Nat.pos_of_ne_zero hc)
    omega
  · rw [List.length_erase_of_mem (hU i hi h0)]
    omega
theorem kidT_new {v : Nat → Tj → Tj} {i k : Nat} {u : Tj} (h : u.m k = 0) : kidT v i u k = lowT (v k u) i ((v k u).l k) := by unfold kidT; rw [if_pos h]
theorem kidT_on {v : Nat → Tj → Tj} {i k : Nat} {u : Tj} (h : u.m k ≠ 0) (h2 : u.on.testBit k = true) : kidT v i u k = lowT u i (u.m k) := by unfold kidT; rw [if_neg h, if_pos h2]
theorem kidT_off {v : Nat → Tj → Tj} {i k : Nat} {u : Tj} (h : u.m k ≠ 0) (h2 : u.on.testBit k = false) : kidT v i u k = u := by unfold kidT; rw [if_neg h, h2, if_neg (by decide)]
theorem foldl_kid {v : Nat → Tj → Tj} {i k q : Nat} {ks : List Nat} {u t : Tj} (hk : ks[q]? = some k) (hu : u = (ks.take q).foldl (kidT v i) t) : kidT v i u k = (ks.take (q + 1)).foldl (kidT v i) t := by
  rw [List.take_add_one, hk, hu]
  show _ = (ks.take q ++ [k]).foldl _ _
  rw [List.foldl_append]
  rfl
theorem take_kid {k q : Nat} {ks : List Nat} (hk : ks[q]? = some k) : ks.take (q + 1) = ks.take q ++ [k] := by
  rw [List.take_add_one, hk]
  rfl
def noP : Nat → Prop := fun _ => False
def startT (n : Nat) : Tj := ⟨List.replicate n 0, List.replicate n 0, [], 0, 0, []⟩
theorem startT_m (n j : Nat) : (startT n).m j = 0 := by
  show (List.replicate n 0).getD j 0 = 0
  rw [List.getD_eq_getElem?_getD, List.getElem?_replicate]
  split <;> rfl
theorem start_inv (l : List Nat) : TjInv l (startT l.length) noP := by
  have hm := startT_m l.length
  refine ⟨List.length_replicate .., List.length_replicate .., List.nodup_nil, fun j => ?_, (fun j hj => by cases hj), List.Pairwise.nil, (fun j => by rw [hm]; exact Nat.zero_le _), fun v h1 h2 => ?_, (fun x y hx => by rw [hm] at hx; omega),
    fun x hx => hx.elim, (fun x hx => by cases hx), fun x y hx => hx.elim, (fun y hy => by cases hy), (fun s hs => by cases hs), (fun x hx => by rw [hm] at hx; omega), List.Pairwise.nil⟩
  · show (0 : Nat).testBit j = true ↔ j ∈ []
    simp
  · have : v ≤ 0 := h2
    omega
def outerT (l : List Nat) : Nat → Tj
  | 0 => startT l.length
  | k + 1 => if (outerT l k).m k = 0 then visit l l.length k (outerT l k) else outerT l k
theorem stk_nil {l : List Nat} {t : Tj} (h : TjInv l t noP) : t.stk = [] := List.eq_nil_iff_forall_not_mem.2 fun y hy => (h.bck y hy).elim fun _ hx => hx.1
structure Out (l : List Nat) (k : Nat) (t : Tj) : Prop where
  inv : TjInv l t noP
  met : ∀ j, j < k → 0 < t.m j
  od : t.out.length ≤ t.now
theorem outer_out {l : List Nat} (hg : Good l) : ∀ k, k ≤ l.length → Out l k (outerT l k)
  | 0, _ => ⟨start_inv l, (fun j hj => by omega), Nat.le_refl _⟩
  | k + 1, hk => by
    have h := outer_out hg k (by omega)
    unfold outerT
    by_cases hm : (outerT l k).m k = 0
    · rw [if_pos hm]
      obtain ⟨seg, hv⟩ := visit_vis hg l.length (outerT l k) noP k (List.range l.length) h.inv (by omega) hm (fun x hx => hx.elim) (fun j hj _ => List.mem_range.2 hj) (by rw [List.length_range]; exact Nat.le_refl _)
      refine ⟨hv.inv, fun j hj => ?_, ?_⟩
      · by_cases hjk : j = k
        · subst hjk; exact hv.me
        · have := h.met j (by omega)
          rw [hv.old j this]
          exact this
      · have := hv.od; have := h.od; omega
    · rw [if_neg hm]
      refine ⟨h.inv, fun j hj => ?_, h.od⟩
      by_cases hjk : j = k
      · subst hjk; omega
      · exact h.met j (by omega)
def endO (l : List Nat) : List Nat := (outerT l l.length).out
/-- The reference's part of a number. -/
def tieB (l : List Nat) (x k : Nat) : Bool := (reachD l (2 ^ x) (-1)).testBit k && (reachD l (2 ^ k) (-1)).testBit x
def tieS (l : List Nat) (x : Nat) : Nat → Nat
  | 0 => 0
  | k + 1 => if tieB l x k = true then addN (tieS l x k) k else tieS l x k
def tiedS (l : List Nat) (x : Nat) : Nat := tieS l x l.length
theorem tieS_bit (l : List Nat) (x k j : Nat) : (tieS l x k).testBit j = true ↔ j < k ∧ tieB l x j = true := by
  induction k with
  | zero => simp [tieS]
  | succ k ih =>
    unfold tieS
    by_cases hc : tieB l x k = true
    · rw [if_pos hc, addN_bits, ih]
      constructor
      · rintro (⟨h1, h2⟩ | h)
        · exact ⟨by omega, h2⟩
        · subst h; exact ⟨by omega, hc⟩
      · rintro ⟨h1, h2⟩
        by_cases hjk : k = j
        · exact .inr hjk
        · exact .inl ⟨by omega, h2⟩
    · rw [if_neg hc, ih]
      constructor
      · rintro ⟨h1, h2⟩; exact ⟨by omega, h2⟩
      · rintro ⟨h1, h2⟩
        have : j ≠ k := fun e => hc (e ▸ h2)
        exact ⟨by omega, h2⟩
theorem tiedS_bit {l : List Nat} (hg : Good l) {x : Nat} (hx : x < l.length) (j : Nat) : (tiedS l x).testBit j = true ↔ Pt l x j ∧ Pt l j x := by
  unfold tiedS
  rw [tieS_bit]
  unfold tieB
  rw [Bool.and_eq_true]
  constructor
  · rintro ⟨_, h2, h3⟩
    exact ⟨iter_rch (k := 65) h2, iter_rch (k := 65) h3⟩
  · rintro ⟨h1, h2⟩
    have hj : j < l.length := rch_lt hg hx h1
    exact ⟨hj, rch_iter hg hx h1, rch_iter hg hj h2⟩
theorem tieS_b64 (l : List Nat) (x : Nat) {k : Nat} (hk : k ≤ 64) : B64 (tieS l x k) := B64.of_bits fun j hj => by
  have := ((tieS_bit l x k j).1 hj).1
  omega
def tpI (l : List Nat) : Nat → List Nat × Nat
  | 0 => ([], 0)
  | k + 1 => if (tpI l k).2.testBit k = true then tpI l k else ((tpI l k).1 ++ [tiedS l k], (tpI l k).2 ||| tiedS l k)
def tiedParts (l : List Nat) : List Nat := (tpI l l.length).1
structure TpInv (l : List Nat) (k : Nat) (st : List Nat × Nat) : Prop where
  mem : ∀ s ∈ st.1, ∃ x, x < k ∧ s = tiedS l x ∧ low s = x
  done : ∀ j, st.2.testBit j = true ↔ ∃ s ∈ st.1, s.testBit j = true
  all : ∀ x, x < k → st.2.testBit x = true
  inc : st.1.Pairwise fun a b => low a < low b
theorem tpI_inv {l : List Nat} (hg : Good l) : ∀ k, k ≤ l.length → TpInv l k (tpI l k)
  | 0, _ => ⟨(fun s hs => by cases hs), (fun j => by simp [tpI]), (fun x hx => by omega), List.Pairwise.nil⟩
  | k + 1, hk => by
    have h := tpI_inv hg k (by omega)
    unfold tpI
    by_cases hc : (tpI l k).2.testBit k = true
    · rw [if_pos hc]
      refine ⟨fun s hs => ?_, h.done, fun x hx => ?_, h.inc⟩
      · obtain ⟨x, h1, h2⟩ := h.mem s hs
        exact ⟨x, by omega, h2⟩
      · by_cases hxk : x = k
        · subst hxk; exact hc
        · exact h.all x (by omega)
    · rw [if_neg hc]
      have hb := tiedS_bit hg (x := k) (by omega)
      have hkk : (tiedS l k).testBit k = true := (hb k).2 ⟨Pt.refl l k, Pt.refl l k⟩
      have h64 : B64 (tiedS l k) := tieS_b64 l k hg.1
      have hne : tiedS l k ≠ 0 := fun e => by rw [e] at hkk; simp at hkk
      have hlow : low (tiedS l k) = k := by
        have h1 := low_le h64 hkk
        have h2 := low_bit h64 hne
        rcases Nat.lt_or_ge (low (tiedS l k)) k with h3 | h3
        · exfalso
          obtain ⟨s, g1, g2⟩ := (h.done _).1 (h.all _ h3)
          obtain ⟨x, g3, g4, _⟩ := h.mem s g1
          rw [g4] at g2
          obtain ⟨g5, g6⟩ := (tiedS_bit hg (by omega) _).1 g2
          obtain ⟨g7, g8⟩ := (hb _).1 h2
          exact hc ((h.done k).2 ⟨s, g1, by rw [g4]; exact (tiedS_bit hg (by omega) _).2 ⟨g5.trans g8, g7.trans g6⟩⟩)
        · omega
      refine ⟨fun s hs => ?_, fun j => ?_, fun x hx => ?_, ?_⟩
      · rcases List.mem_append.1 hs with hs | hs
        · obtain ⟨x, h1, h2⟩ := h.mem s hs
          exact ⟨x, by omega, h2⟩
        · rw [List.mem_singleton] at hs
          subst hs
          exact ⟨k, by omega, rfl, hlow⟩
      · show ((tpI l k).2 ||| tiedS l k).testBit j = true ↔ _
        rw [Nat.testBit_or, Bool.or_eq_true, h.done]
        constructor
        · rintro (⟨s, h1, h2⟩ | h1)
          · exact ⟨s, List.mem_append_left _ h1, h2⟩
          · exact ⟨_, List.mem_append_right _ (List.mem_singleton_self _), h1⟩
        · rintro ⟨s, h1, h2⟩
          rcases List.mem_append.1 h1 with h1 | h1
          · exact .inl ⟨s, h1, h2⟩
          · rw [List.mem_singleton] at h1
            subst h1
            exact .inr h2
      · show ((tpI l k).2 ||| tiedS l k).testBit x = true
        rw [Nat.testBit_or, Bool.or_eq_true]
        by_cases hxk : x = k
        · subst hxk; exact .inr hkk
        · exact .inl (h.all x (by omega))
      · show ((tpI l k).1 ++ [tiedS l k]).Pairwise _
        rw [List.pairwise_append]
        refine ⟨h.inc, List.pairwise_singleton _ _, fun a ha b hb => ?_⟩
        rw [List.mem_singleton] at hb
        rw [hb, hlow]
        obtain ⟨x, h1, _, h3⟩ := h.mem a ha
        omega
theorem tied_eq {l : List Nat} (hg : Good l) {x y : Nat} (hx : x < l.length) (hy : y < l.length) (h : (tiedS l x).testBit y = true) : tiedS l x = tiedS l y := by
  obtain ⟨h1, h2⟩ := (tiedS_bit hg hx y).1 h
  refine set_ext fun j => Bool.eq_iff_iff.2 ?_
  rw [tiedS_bit hg hx, tiedS_bit hg hy]
  exact ⟨fun ⟨a, b⟩ => ⟨h2.trans a, b.trans h1⟩, fun ⟨a, b⟩ => ⟨h1.trans a, b.trans h2⟩⟩
theorem parts_mem {l : List Nat} (hg : Good l) (s : Nat) : s ∈ endO l ↔ ∃ x, x < l.length ∧ s = tiedS l x := by
  have ho := outer_out hg l.length (Nat.le_refl _)
  have hnil := stk_nil ho.inv
  have hof : ∀ s ∈ endO l, ∃ x, x < l.length ∧ s = tiedS l x := fun s hs => by
    obtain ⟨x, h1, _, h3⟩ := ho.inv.out1 s hs
    have hx : x < l.length := by have := m_lt h1; rw [ho.inv.ml] at this; exact this
    refine ⟨x, hx, set_ext fun j => Bool.eq_iff_iff.2 ?_⟩
    rw [h3, tiedS_bit hg hx]
  refine ⟨hof s, ?_⟩
  rintro ⟨x, hx, rfl⟩
  obtain ⟨s', h1, h2⟩ := ho.inv.out2 x (ho.met x hx) (by rw [hnil]; simp)
  obtain ⟨y, hy, rfl⟩ := hof s' h1
  rw [← tied_eq hg hy hx h2]
  exact h1
theorem tp_mem {l : List Nat} (hg : Good l) (s : Nat) : s ∈ tiedParts l ↔ ∃ x, x < l.length ∧ s = tiedS l x := by
  have h := tpI_inv hg l.length (Nat.le_refl _)
  constructor
  · intro hs
    obtain ⟨x, h1, h2, _⟩ := h.mem s hs
    exact ⟨x, h1, h2⟩
  · rintro ⟨x, hx, rfl⟩
    obtain ⟨s', h1, h2⟩ := (h.done x).1 (h.all x hx)
    obtain ⟨y, hy, rfl, _⟩ := h.mem s' h1
    rw [← tied_eq hg hy hx h2]
    exact h1
theorem tiedS_self {l : List Nat} (hg : Good l) {x : Nat} (hx : x < l.length) : (tiedS l x).testBit x = true := (tiedS_bit hg hx x).2 ⟨Pt.refl l x, Pt.refl l x⟩
theorem endO_b64 {l : List Nat} (hg : Good l) {s : Nat} (hs : s ∈ endO l) : B64 s ∧ s ≠ 0 := by
  obtain ⟨x, hx, rfl⟩ := (parts_mem hg s).1 hs
  refine ⟨tieS_b64 l x hg.1, fun e => ?_⟩
  have := tiedS_self hg hx
  rw [e] at this
  simp at this
theorem endO_nodup {l : List Nat} (hg : Good l) : (endO l).Nodup := by
  have ho := outer_out hg l.length (Nat.le_refl _)
  refine ho.inv.out3.imp_of_mem fun {a b} ha hb hab => ?_
  rintro rfl
  obtain ⟨x, hx, rfl⟩ := (parts_mem hg a).1 ha
  have h1 := tiedS_self hg hx
  rw [hab x h1] at h1
  cases h1
theorem endO_len {l : List Nat} (hg : Good l) : (endO l).length ≤ l.length := by
  have ho := outer_out hg l.length (Nat.le_refl _)
  exact Nat.le_trans ho.od ho.inv.now_le
/-- What the walk found, sorted by least numbers, is the reference's list. -/
theorem sorted_parts {l : List Nat} (hg : Good l) {L : List Nat} (hp : List.Perm L (endO l)) (hs : L.Pairwise fun a b => low a ≤ low b) : L = tiedParts l := by
  have ht := tpI_inv hg l.length (Nat.le_refl _)
  have hnd : (tiedParts l).Nodup := ht.inc.imp fun {a b} h e => by rw [e] at h; omega
  have hp2 : List.Perm L (tiedParts l) := hp.trans ((List.perm_ext_iff_of_nodup (endO_nodup hg) hnd).2 fun s => by rw [parts_mem hg, tp_mem hg])
  refine List.Perm.eq_of_pairwise (le := fun a b => low a ≤ low b) (fun a b ha hb h1 h2 => ?_) hs (ht.inc.imp fun h => Nat.le_of_lt h) hp2
  obtain ⟨x, hx, rfl⟩ := (parts_mem hg a).1 (hp.mem_iff.1 ha)
  obtain ⟨y, hy, rfl, hly⟩ := ht.mem b hb
  have hxb := endO_b64 hg (hp.mem_iff.1 ha)
  have h3 := low_bit hxb.1 hxb.2
  have h4 : low (tiedS l x) = y := by omega
  rw [h4] at h3
  exact tied_eq hg hx hy h3
end Go.Proofs.YtonmkmghpiagjaaDoor
