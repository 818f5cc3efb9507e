/- Plain law of package knot: one walk over all numbers (met, low, a stack) finds the tied parts. No condition. -/
import Derived.Test.YtonmkmghpiagjaaDoorDomPlain2
namespace Go.Proofs.YtonmkmghpiagjaaDoor

def Ed (l : List Nat) (x y : Nat) : Prop := (rowAt l x).testBit y = true
def Pt (l : List Nat) (x y : Nat) : Prop := Rch l x (fun _ => True) y
theorem Pt.refl (l : List Nat) (x : Nat) : Pt l x x := .start trivial
theorem Pt.edge {l : List Nat} {x y z : Nat} (h : Pt l x y) (e : Ed l y z) : Pt l x z := .step h e trivial
theorem Ed.pt {l : List Nat} {x y : Nat} (e : Ed l x y) : Pt l x y := (Pt.refl l x).edge e
theorem Pt.trans {l : List Nat} {x y z : Nat} (h : Pt l x y) (h2 : Pt l y z) : Pt l x z := by
  unfold Pt at h2
  induction h2 with
  | start _ => exact h
  | step _ e _ ih => exact ih.edge e
structure Tj where
  met : List Nat
  low : List Nat
  stk : List Nat
  on : Nat
  now : Nat
  out : List Nat
def Tj.m (t : Tj) (j : Nat) : Nat := t.met.getD j 0
def Tj.l (t : Tj) (j : Nat) : Nat := t.low.getD j 0
def setL (L : List Nat) : Nat := L.foldl addN 0
theorem addN_bits (s i j : Nat) : (addN s i).testBit j = true ↔ s.testBit j = true ∨ i = j := by
  unfold addN
  rw [Nat.testBit_or, Nat.testBit_two_pow, Bool.or_eq_true, decide_eq_true_eq]
theorem foldl_addN_bits : ∀ (L : List Nat) (s j : Nat), (L.foldl addN s).testBit j = true ↔ s.testBit j = true ∨ j ∈ L
  | [], s, j => by simp
  | a :: L, s, j => by
    rw [List.foldl_cons, foldl_addN_bits L, addN_bits, List.mem_cons, or_assoc]
    constructor
    · rintro (h | h | h)
      · exact .inl h
      · exact .inr (.inl h.symm)
      · exact .inr (.inr h)
    · rintro (h | h | h)
      · exact .inl h
      · exact .inr (.inl h.symm)
      · exact .inr (.inr h)
theorem setL_bit (L : List Nat) (j : Nat) : (setL L).testBit j = true ↔ j ∈ L := by
  unfold setL
  rw [foldl_addN_bits]
  simp
def enterT (t : Tj) (i : Nat) : Tj := { met := t.met.set i (t.now + 1), low := t.low.set i (t.now + 1), stk := t.stk ++ [i], on := addN t.on i, now := t.now + 1, out := t.out }
def lowT (t : Tj) (i v : Nat) : Tj := { t with low := t.low.set i (min (t.l i) v) }
def kidT (v : Nat → Tj → Tj) (i : Nat) (t : Tj) (k : Nat) : Tj :=
  if t.m k = 0 then lowT (v k t) i ((v k t).l k) else if t.on.testBit k then lowT t i (t.m k) else t
def cutT (i : Nat) (t : Tj) : Nat := setL (t.stk.drop (t.stk.idxOf i))
def leaveT (i : Nat) (t : Tj) : Tj :=
  if t.l i = t.m i then { t with stk := t.stk.take (t.stk.idxOf i), on := minus t.on (cutT i t), out := t.out ++ [cutT i t] } else t
def visit (l : List Nat) : Nat → Nat → Tj → Tj
  | 0, _, t => t
  | f + 1, i, t => leaveT i ((nums (rowAt l i)).foldl (kidT (visit l f) i) (enterT t i))
structure TjInv (l : List Nat) (t : Tj) (P : Nat → Prop) : Prop where
  ml : t.met.length = l.length
  ll : t.low.length = l.length
  nd : t.stk.Nodup
  onb : ∀ j, t.on.testBit j = true ↔ j ∈ t.stk
  stm : ∀ j ∈ t.stk, 0 < t.m j
  mono : t.stk.Pairwise fun a b => t.m a < t.m b
  now : ∀ j, t.m j ≤ t.now
  sur : ∀ v, 0 < v → v ≤ t.now → v ∈ t.met
  clo : ∀ x y, 0 < t.m x → x ∉ t.stk → Ed l x y → 0 < t.m y ∧ y ∉ t.stk
  gr : ∀ x, P x → x ∈ t.stk
  blk : ∀ x ∈ t.stk, ¬ P x → ∀ y, Ed l x y → 0 < t.m y
  fwd : ∀ x y, P x → y ∈ t.stk → t.m x ≤ t.m y → Pt l x y
  bck : ∀ y ∈ t.stk, ∃ x, P x ∧ t.m x ≤ t.m y ∧ Pt l y x
  out1 : ∀ s ∈ t.out, ∃ x, 0 < t.m x ∧ x ∉ t.stk ∧ ∀ j, s.testBit j = true ↔ Pt l x j ∧ Pt l j x
  out2 : ∀ x, 0 < t.m x → x ∉ t.stk → ∃ s ∈ t.out, s.testBit x = true
  out3 : t.out.Pairwise fun s s' => ∀ j, s.testBit j = true → s'.testBit j = false
structure Vis (l : List Nat) (t : Tj) (P : Nat → Prop) (i : Nat) (t' : Tj) (seg : List Nat) : Prop where
  inv : TjInv l t' P
  stk : t'.stk = t.stk ++ seg
  old : ∀ j, 0 < t.m j → t'.m j = t.m j
  new : ∀ j, t.m j = 0 → t'.m j = 0 ∨ t.now < t'.m j
  me : 0 < t'.m i
  nw : t.now ≤ t'.now
  lo : ∀ j, 0 < t.m j → t'.l j = t.l j
  la : t'.l i ≤ t'.m i
  lb : (t'.l i = t'.m i ∧ seg = []) ∨ ∃ z ∈ t.stk, t.m z = t'.l i ∧ Pt l i z
  lc : ∀ x ∈ seg, ∀ y ∈ t.stk, Ed l x y → t'.l i ≤ t.m y
  od : t'.out.length + t.now ≤ t.out.length + t'.now
structure Lp (l : List Nat) (t : Tj) (P : Nat → Prop) (i : Nat) (ks : List Nat) (u : Tj) (seg : List Nat) : Prop where
  inv : TjInv l u (fun x => x = i ∨ P x)
  stk : u.stk = t.stk ++ i :: seg
  old : ∀ j, 0 < t.m j → u.m j = t.m j
  new : ∀ j, t.m j = 0 → u.m j = 0 ∨ t.now < u.m j
  me : u.m i = t.now + 1
  nw : t.now + 1 ≤ u.now
  lo : ∀ j, 0 < t.m j → u.l j = t.l j
  la : u.l i ≤ u.m i
  lb : ∃ z, (z = i ∨ z ∈ t.stk) ∧ u.m z = u.l i ∧ Pt l i z
  lc : ∀ x ∈ seg, ∀ y ∈ t.stk, Ed l x y → u.l i ≤ t.m y
  ld : ∀ k ∈ ks, 0 < u.m k ∧ (k ∈ t.stk → u.l i ≤ t.m k)
  od : u.out.length + t.now + 1 ≤ t.out.length + u.now
theorem getD_set (L : List Nat) (i j v : Nat) (hi : i < L.length) : (L.set i v).getD j 0 = if j = i then v else L.getD j 0 := by
  rw [List.getD_eq_getElem?_getD, List.getElem?_set, List.getD_eq_getElem?_getD]
  by_cases h : i = j
  · subst h; simp [hi]
  · rw [if_neg h, if_neg (fun e => h e.symm)]
theorem m_lt {t : Tj} {j : Nat} (h : 0 < t.m j) : j < t.met.length := by
  apply Classical.byContradiction
  intro hc
  unfold Tj.m at h
  rw [List.getD_eq_getElem?_getD, List.getElem?_eq_none (by omega)] at h
  simp at h
theorem enter_m {l : List Nat} {t : Tj} {P : Nat → Prop} (h : TjInv l t P) {i : Nat} (hi : i < l.length) (j : Nat) : (enterT t i).m j = if j = i then t.now + 1 else t.m j :=
  getD_set t.met i j _ (by rw [h.ml]; exact hi)
theorem enter_l {l : List Nat} {t : Tj} {P : Nat → Prop} (h : TjInv l t P) {i : Nat} (hi : i < l.length) (j : Nat) : (enterT t i).l j = if j = i then t.now + 1 else t.l j :=
  getD_set t.low i j _ (by rw [h.ll]; exact hi)
theorem low_l {l : List Nat} {t : Tj} {P : Nat → Prop} (h : TjInv l t P) {i : Nat} (hi : i < l.length) (v j : Nat) : (lowT t i v).l j = if j = i then min (t.l i) v else t.l j :=
  getD_set t.low i j _ (by rw [h.ll]; exact hi)
theorem inv_low {l : List Nat} {t : Tj} {P : Nat → Prop} (h : TjInv l t P) (i v : Nat) : TjInv l (lowT t i v) P :=
  ⟨h.ml, by show (t.low.set i _).length = _; rw [List.length_set]; exact h.ll, h.nd, h.onb, h.stm, h.mono, h.now, h.sur, h.clo, h.gr, h.blk, h.fwd, h.bck, h.out1, h.out2, h.out3⟩
theorem mem_set_of {L : List Nat} {i v w : Nat} (h : w ∈ L) (hi : L.getD i 0 ≠ w) : w ∈ L.set i v := by
  obtain ⟨j, hj⟩ := List.mem_iff_getElem?.1 h
  refine List.mem_iff_getElem?.2 ⟨j, ?_⟩
  rw [List.getElem?_set]
  by_cases h2 : i = j
  · subst h2
    exact absurd (by rw [List.getD_eq_getElem?_getD, hj]; rfl) hi
  · rw [if_neg h2]; exact hj
theorem enter_lp {l : List Nat} {t : Tj} {P : Nat → Prop} (h : TjInv l t P) {i : Nat} (hi : i < l.length) (h0 : t.m i = 0) (hP : ∀ x, P x → Pt l x i) : Lp l t P i [] (enterT t i) [] := by
  have hm := enter_m h hi
  have hl := enter_l h hi
  have hni : i ∉ t.stk := fun hc => by have := h.stm i hc; omega
  have hne : ∀ j, j ∈ t.stk → j ≠ i := fun j hj e => hni (e ▸ hj)
  have hmo : ∀ j, j ≠ i → (enterT t i).m j = t.m j := fun j hj => by rw [hm, if_neg hj]
  have hmi : (enterT t i).m i = t.now + 1 := by rw [hm, if_pos rfl]
  have hst : (enterT t i).stk = t.stk ++ [i] := rfl
  have hmem : ∀ y, y ∈ (enterT t i).stk ↔ y ∈ t.stk ∨ y = i := fun y => by rw [hst, List.mem_append, List.mem_singleton]
  have pop : ∀ x, 0 < (enterT t i).m x → x ∉ (enterT t i).stk → x ≠ i ∧ 0 < t.m x ∧ x ∉ t.stk := fun x h1 h2 => by
    rw [hmem] at h2
    have hx : x ≠ i := fun e => h2 (.inr e)
    rw [hmo x hx] at h1
    exact ⟨hx, h1, fun hc => h2 (.inl hc)⟩
  have pop' : ∀ x, 0 < t.m x → x ∉ t.stk → 0 < (enterT t i).m x ∧ x ∉ (enterT t i).stk := fun x h1 h2 => by
    have hx : x ≠ i := fun e => by rw [e] at h1; omega
    rw [hmem, hmo x hx]
    exact ⟨h1, fun hc => hc.elim h2 hx⟩
  refine ⟨⟨?_, ?_, ?_, ?_, ?_, ?_, ?_, ?_, ?_, ?_, ?_, ?_, ?_, ?_, ?_, ?_⟩, hst, ?_, ?_, hmi, Nat.le_refl _, ?_, ?_, ⟨i, .inl rfl, by rw [hmi, hl, if_pos rfl], Pt.refl l i⟩, ?_, ?_, ?_⟩
  · show (t.met.set i _).length = _; rw [List.length_set]; exact h.ml
  · show (t.low.set i _).length = _; rw [List.length_set]; exact h.ll
  · rw [hst, List.nodup_append]
    exact ⟨h.nd, by simp, fun a ha b hb e => by rw [List.mem_singleton] at hb; exact hne a ha (e.trans hb)⟩
  · intro j
    show (addN t.on i).testBit j = true ↔ _
    rw [addN_bits, h.onb, hmem]
    constructor <;> rintro (h | h)
    · exact .inl h
    · exact .inr h.symm
    · exact .inl h
    · exact .inr h.symm
  · intro j hj
    rcases (hmem j).1 hj with hj | rfl
    · rw [hmo j (hne j hj)]; exact h.stm j hj
    · rw [hmi]; omega
  · rw [hst, List.pairwise_append]
    refine ⟨h.mono.imp_of_mem fun {a b} ha hb hab => by rw [hmo a (hne a ha), hmo b (hne b hb)]; exact hab, List.pairwise_singleton _ _, fun a ha b hb => ?_⟩
    rw [List.mem_singleton] at hb
    rw [hb, hmi, hmo a (hne a ha)]
    have := h.now a
    omega
  · intro j
    show _ ≤ t.now + 1
    rw [hm]
    have := h.now j
    split <;> omega
  · intro v hv hv2
    show v ∈ t.met.set i (t.now + 1)
    by_cases hvn : v = t.now + 1
    · subst hvn
      exact List.mem_iff_getElem?.2 ⟨i, by rw [List.getElem?_set_self (by rw [h.ml]; exact hi)]⟩
    · have hv3 : v ≤ t.now + 1 := hv2
      exact mem_set_of (h.sur v hv (by omega)) (by show t.m i ≠ v; omega)
  · intro x y h1 h2 he
    obtain ⟨h3, h4, h5⟩ := pop x h1 h2
    obtain ⟨h6, h7⟩ := h.clo x y h4 h5 he
    exact pop' y h6 h7
  · intro x hx
    rw [hmem]
    rcases hx with rfl | hx
    · exact .inr rfl
    · exact .inl (h.gr x hx)
  · intro x hx hn y he
    rcases (hmem x).1 hx with hx | rfl
    · have h1 := h.blk x hx (fun hp => hn (.inr hp)) y he
      rw [hmo y (fun e => by rw [e] at h1; omega)]
      exact h1
    · exact absurd (.inl rfl) hn
  · intro x y hx hy hle
    rcases (hmem y).1 hy with hy' | rfl
    · rcases hx with rfl | hx
      · rw [hmi, hmo y (hne y hy')] at hle
        have := h.now y
        omega
      · rw [hmo x (hne x (h.gr x hx)), hmo y (hne y hy')] at hle
        exact h.fwd x y hx hy' hle
    · rcases hx with rfl | hx
      · exact Pt.refl _ _
      · exact hP x hx
  · intro y hy
    rcases (hmem y).1 hy with hy' | rfl
    · obtain ⟨x, h1, h2, h3⟩ := h.bck y hy'
      exact ⟨x, .inr h1, by rw [hmo x (hne x (h.gr x h1)), hmo y (hne y hy')]; exact h2, h3⟩
    · exact ⟨y, .inl rfl, Nat.le_refl _, Pt.refl _ _⟩
  · intro s hs
    obtain ⟨x, h1, h2, h3⟩ := h.out1 s hs
    obtain ⟨h4, h5⟩ := pop' x h1 h2
    exact ⟨x, h4, h5, h3⟩
  · intro x h1 h2
    obtain ⟨_, h4, h5⟩ := pop x h1 h2
    exact h.out2 x h4 h5
  · exact h.out3
  · intro j hj
    exact hmo j (fun e => by rw [e] at hj; omega)
  · intro j hj
    by_cases hji : j = i
    · right; rw [hji, hmi]; omega
    · left; rw [hmo j hji]; exact hj
  · intro j hj
    rw [hl, if_neg (fun e => by rw [e] at hj; omega)]
  · rw [hmi, hl, if_pos rfl]; exact Nat.le_refl _
  · intro x hx; cases hx
  · intro k hk; cases hk
  · show t.out.length + t.now + 1 ≤ t.out.length + (t.now + 1); omega
/-- On the stack, what lies behind i was met later. -/
theorem Lp.behind {l : List Nat} {t u : Tj} {P : Nat → Prop} {i : Nat} {ks seg : List Nat} (h : Lp l t P i ks u seg) {z : Nat} (hz : z ∈ u.stk) (hlt : u.m z < u.m i) : z ∈ t.stk := by
  rw [h.stk, List.mem_append] at hz
  rcases hz with hz | hz
  · exact hz
  · have hm := h.inv.mono
    rw [h.stk, List.pairwise_append] at hm
    rcases List.mem_cons.1 hz with rfl | hz
    · omega
    · have := List.rel_of_pairwise_cons hm.2.1 hz
      omega
theorem Lp.before {l : List Nat} {t u : Tj} {P : Nat → Prop} {i : Nat} {ks seg : List Nat} (h : Lp l t P i ks u seg) {z : Nat} (hz : z ∈ t.stk) : u.m z < u.m i := by
  have hm := h.inv.mono
  rw [h.stk, List.pairwise_append] at hm
  exact hm.2.2 z hz i (List.mem_cons_self ..)
theorem Lp.told {l : List Nat} {t u : Tj} {P : Nat → Prop} {i : Nat} {ks seg : List Nat} (h : Lp l t P i ks u seg) (ht : TjInv l t P) {z : Nat} (hz : z ∈ t.stk) : u.m z = t.m z := h.old z (ht.stm z hz)
theorem kid_new {l : List Nat} {t u u' : Tj} {P : Nat → Prop} {i k : Nat} {ks seg seg' : List Nat} (ht : TjInv l t P) (hi : i < l.length) (h : Lp l t P i ks u seg) (hk0 : u.m k = 0) (he : Ed l i k)
    (hv : Vis l u (fun x => x = i ∨ P x) k u' seg') : Lp l t P i (ks ++ [k]) (lowT u' i (u'.l k)) (seg ++ seg') := by
  have hmi : 0 < u.m i := by rw [h.me]; omega
  have hmi' : u'.m i = t.now + 1 := by rw [hv.old i hmi, h.me]
  have hl := low_l hv.inv hi (u'.l k)
  have hli : (lowT u' i (u'.l k)).l i = min (u.l i) (u'.l k) := by rw [hl, if_pos rfl, hv.lo i hmi]
  have hmin1 : min (u.l i) (u'.l k) ≤ u.l i := Nat.min_le_left _ _
  have hmin2 : min (u.l i) (u'.l k) ≤ u'.l k := Nat.min_le_right _ _
  refine ⟨inv_low hv.inv _ _, ?_, ?_, ?_, hmi', ?_, ?_, ?_, ?_, ?_, ?_, ?_⟩
  · show u'.stk = _
    rw [hv.stk, h.stk, List.append_assoc, List.cons_append]
  · intro j hj
    show u'.m j = _
    rw [hv.old j (by rw [h.old j hj]; exact hj), h.old j hj]
  · intro j hj
    show u'.m j = 0 ∨ _
    have := h.nw
    rcases h.new j hj with h1 | h1
    · rcases hv.new j h1 with h2 | h2
      · exact .inl h2
      · right; show t.now < u'.m j; omega
    · right; show t.now < u'.m j; rw [hv.old j (by omega)]; exact h1
  · show _ ≤ u'.now
    have := h.nw; have := hv.nw; omega
  · intro j hj
    have hji : j ≠ i := fun e => by
      have h1 := h.old j hj
      rw [e, h.me] at h1
      have h2 := ht.now j
      rw [e] at h2
      omega
    rw [hl, if_neg hji, hv.lo j (by rw [h.old j hj]; exact hj), h.lo j hj]
  · show _ ≤ u'.m i
    rw [hli, hmi']
    have := h.la
    rw [h.me] at this
    omega
  · obtain ⟨z, hz, hz2, hz3⟩ := h.lb
    rw [hli]
    by_cases hc : u.l i ≤ u'.l k
    · refine ⟨z, hz, ?_, hz3⟩
      show u'.m z = _
      rw [Nat.min_eq_left hc, ← hz2]
      refine hv.old z ?_
      rcases hz with rfl | hz
      · exact hmi
      · rw [h.told ht hz]; exact ht.stm z hz
    · rw [Nat.min_eq_right (by omega)]
      rcases hv.lb with ⟨h1, h2⟩ | ⟨y, h1, h2, h3⟩
      · exfalso
        have h4 := h.la
        have h5 := hv.inv.now k
        rcases hv.new k hk0 with h6 | h6
        · have := hv.me; omega
        · have h7 := h.inv.now i
          omega
      · refine ⟨y, ?_, ?_, (Ed.pt he).trans h3⟩
        · right
          refine h.behind h1 ?_
          have := h.la
          omega
        · show u'.m y = _
          rw [hv.old y (h.inv.stm y h1), h2]
  · intro x hx y hy hxy
    rw [hli]
    rcases List.mem_append.1 hx with hx | hx
    · have := h.lc x hx y hy hxy; omega
    · have h1 := hv.lc x hx y (by rw [h.stk]; exact List.mem_append_left _ hy) hxy
      rw [h.told ht hy] at h1
      omega
  · intro q hq
    rw [hli]
    rcases List.mem_append.1 hq with hq | hq
    · obtain ⟨h1, h2⟩ := h.ld q hq
      refine ⟨?_, fun h3 => by have := h2 h3; omega⟩
      show 0 < u'.m q
      rw [hv.old q h1]; exact h1
    · rw [List.mem_singleton] at hq
      subst hq
      refine ⟨hv.me, fun h3 => ?_⟩
      have h4 := ht.stm q h3
      rw [h.old q h4] at hk0
      omega
  · show u'.out.length + t.now + 1 ≤ t.out.length + u'.now
    have := hv.od; have := h.od; omega
theorem kid_on {l : List Nat} {t u : Tj} {P : Nat → Prop} {i k : Nat} {ks seg : List Nat} (ht : TjInv l t P) (hi : i < l.length) (h : Lp l t P i ks u seg) (hk0 : u.m k ≠ 0) (hon : k ∈ u.stk) (he : Ed l i k) :
    Lp l t P i (ks ++ [k]) (lowT u i (u.m k)) seg := by
  have hl := low_l h.inv hi (u.m k)
  have hli : (lowT u i (u.m k)).l i = min (u.l i) (u.m k) := by rw [hl, if_pos rfl]
  have hmin1 : min (u.l i) (u.m k) ≤ u.l i := Nat.min_le_left _ _
  have hmin2 : min (u.l i) (u.m k) ≤ u.m k := Nat.min_le_right _ _
  refine ⟨inv_low h.inv _ _, h.stk, h.old, h.new, h.me, h.nw, ?_, ?_, ?_, ?_, ?_, h.od⟩
  · intro j hj
    have hji : j ≠ i := fun e => by
      have h1 := h.old j hj
      rw [e, h.me] at h1
      have h2 := ht.now j
      rw [e] at h2
      omega
    rw [hl, if_neg hji, h.lo j hj]
  · show _ ≤ u.m i
    rw [hli]
    have := h.la
    omega
  · obtain ⟨z, hz, hz2, hz3⟩ := h.lb
    rw [hli]
    by_cases hc : u.l i ≤ u.m k
    · exact ⟨z, hz, by rw [Nat.min_eq_left hc]; exact hz2, hz3⟩
    · rw [Nat.min_eq_right (by omega)]
      refine ⟨k, .inr (h.behind hon ?_), rfl, Ed.pt he⟩
      have := h.la
      omega
  · intro x hx y hy hxy
    rw [hli]
    have := h.lc x hx y hy hxy; omega
  · intro q hq
    rw [hli]
    rcases List.mem_append.1 hq with hq | hq
    · obtain ⟨h1, h2⟩ := h.ld q hq
      exact ⟨h1, fun h3 => by have := h2 h3; omega⟩
    · rw [List.mem_singleton] at hq
      subst hq
      refine ⟨Nat.pos_of_ne_zero hk0, fun h3 => ?_⟩
      rw [← h.told ht h3]
      exact hmin2
theorem kid_off {l : List Nat} {t u : Tj} {P : Nat → Prop} {i k : Nat} {ks seg : List Nat} (h : Lp l t P i ks u seg) (hk0 : u.m k ≠ 0) (hon : k ∉ u.stk) : Lp l t P i (ks ++ [k]) u seg :=
  ⟨h.inv, h.stk, h.old, h.new, h.me, h.nw, h.lo, h.la, h.lb, h.lc, fun q hq => by
    rcases List.mem_append.1 hq with hq | hq
    · exact h.ld q hq
    · rw [List.mem_singleton] at hq
      subst hq
      exact ⟨Nat.pos_of_ne_zero hk0, fun h3 => absurd (by rw [h.stk]; exact List.mem_append_left _ h3) hon⟩, h.od⟩
/-- Where an edge of the segment leads: into it, or to what is finished, or below. -/
theorem Lp.exit {l : List Nat} {t u : Tj} {P : Nat → Prop} {i : Nat} {seg : List Nat} (hg : Good l) (h : Lp l t P i (nums (rowAt l i)) u seg) (hNP : ∀ x, P x → x ∈ t.stk) {x y : Nat} (hx : x ∈ i :: seg) (he : Ed l x y) :
    0 < u.m y ∧ (y ∈ t.stk → u.l i ≤ t.m y) := by
  rcases List.mem_cons.1 hx with rfl | hx'
  · exact h.ld y ((mem_nums (hg.b64 _)).2 he)
  · have hxs : x ∈ u.stk := by rw [h.stk]; exact List.mem_append_right _ (List.mem_cons_of_mem _ hx')
    have hnd2 := h.inv.nd
    rw [h.stk, List.nodup_append] at hnd2
    refine ⟨h.inv.blk x hxs ?_ y he, fun hy => h.lc x hx' y hy he⟩
    rintro (rfl | hp)
    · exact (List.nodup_cons.1 hnd2.2.1).1 hx'
    · exact hnd2.2.2 x (hNP x hp) x (List.mem_cons_of_mem _ hx') rfl
theorem TjInv.pop_path {l : List Nat} {t : Tj} {P : Nat → Prop} (h : TjInv l t P) {x y : Nat} (h1 : 0 < t.m x) (h2 : x ∉ t.stk) (hp : Pt l x y) : 0 < t.m y ∧ y ∉ t.stk := by
  unfold Pt at hp
  induction hp with
  | start _ => exact ⟨h1, h2⟩
  | step _ e _ ih => exact h.clo _ _ ih.1 ih.2 e
theorem leave_no {l : List Nat} {t u : Tj} {P : Nat → Prop} {i : Nat} {seg : List Nat} (ht : TjInv l t P) (hg : Good l) (h0 : t.m i = 0) (h : Lp l t P i (nums (rowAt l i)) u seg) (hne : u.l i ≠ u.m i) : Vis l t P i u (i :: seg) := by
  have hnP : ¬ P i := fun hp => by have := ht.stm i (ht.gr i hp); omega
  obtain ⟨z, hz, hz2, hz3⟩ := h.lb
  have hzt : z ∈ t.stk := hz.resolve_left (fun e => hne (by rw [← hz2, e]))
  have hla := h.la
  refine ⟨⟨h.inv.ml, h.inv.ll, h.inv.nd, h.inv.onb, h.inv.stm, h.inv.mono, h.inv.now, h.inv.sur, h.inv.clo, fun x hx => h.inv.gr x (.inr hx), ?_, fun x y hx => h.inv.fwd x y (.inr hx), ?_, h.inv.out1, h.inv.out2, h.inv.out3⟩,
    h.stk, h.old, h.new, by rw [h.me]; omega, by have := h.nw; omega, h.lo, h.la, .inr ⟨z, hzt, by rw [← h.told ht hzt]; exact hz2, hz3⟩, fun x hx y hy he => (h.exit hg ht.gr hx he).2 hy, by have := h.od; omega⟩
  · intro x hx hn y he
    by_cases hxi : x = i
    · subst hxi
      exact (h.exit hg ht.gr (List.mem_cons_self ..) he).1
    · exact h.inv.blk x hx (fun hc => hc.elim hxi hn) y he
  · intro y hy
    obtain ⟨x, h1, h2, h3⟩ := h.inv.bck y hy
    rcases h1 with rfl | h1
    · have hzs : z ∈ u.stk := by rw [h.stk]; exact List.mem_append_left _ hzt
      obtain ⟨x', g1, g2, g3⟩ := h.inv.bck z hzs
      have hx' : x' ≠ x := fun e => by rw [e] at g2; omega
      exact ⟨x', g1.resolve_left hx', by omega, h3.trans (hz3.trans g3)⟩
    · exact ⟨x, h1, h2, h3⟩
theorem leave_yes {l : List Nat} {t u : Tj} {P : Nat → Prop} {i : Nat} {seg : List Nat} (ht : TjInv l t P) (hg : Good l) (h0 : t.m i = 0) (h : Lp l t P i (nums (rowAt l i)) u seg) (he : u.l i = u.m i) : Vis l t P i (leaveT i u) [] := by
  have hni : i ∉ t.stk := fun hc => by have := ht.stm i hc; omega
  have hidx : u.stk.idxOf i = t.stk.length := by
    rw [h.stk, List.idxOf_append, if_neg hni, List.idxOf_cons_self]; simp
  have htake : u.stk.take (u.stk.idxOf i) = t.stk := by rw [hidx, h.stk]; simp
  have hdrop : u.stk.drop (u.stk.idxOf i) = i :: seg := by rw [hidx, h.stk]; simp
  have hcut : cutT i u = setL (i :: seg) := by unfold cutT; rw [hdrop]
  have hlv : leaveT i u = { u with stk := t.stk, on := minus u.on (setL (i :: seg)), out := u.out ++ [setL (i :: seg)] } := by
    unfold leaveT
    rw [if_pos he, htake, hcut]
  rw [hlv]
  have hnd := h.inv.nd
  rw [h.stk, List.nodup_append] at hnd
  have hsep : ∀ x, x ∈ t.stk → x ∉ i :: seg := fun x hx hc => hnd.2.2 x hx x hc rfl
  have hmem : ∀ x, x ∈ u.stk ↔ x ∈ t.stk ∨ x ∈ i :: seg := fun x => by rw [h.stk, List.mem_append]
  have hmo := h.inv.mono
  rw [h.stk, List.pairwise_append] at hmo
  have hstep : ∀ x y, (x ∈ i :: seg ∨ (0 < u.m x ∧ x ∉ u.stk)) → Ed l x y → (y ∈ i :: seg ∨ (0 < u.m y ∧ y ∉ u.stk)) := fun x y hx hxy => by
    rcases hx with hx | ⟨h1, h2⟩
    · obtain ⟨g1, g2⟩ := h.exit hg ht.gr hx hxy
      by_cases hy : y ∈ u.stk
      · rcases (hmem y).1 hy with hy | hy
        · have := g2 hy
          have := h.before hy
          rw [h.told ht hy] at this
          omega
        · exact .inl hy
      · exact .inr ⟨g1, hy⟩
    · exact .inr (h.inv.clo x y h1 h2 hxy)
  have hpath : ∀ x y, (x ∈ i :: seg ∨ (0 < u.m x ∧ x ∉ u.stk)) → Pt l x y → (y ∈ i :: seg ∨ (0 < u.m y ∧ y ∉ u.stk)) := fun x y hx hp => by
    unfold Pt at hp
    induction hp with
    | start _ => exact hx
    | step _ e _ ih => exact hstep _ _ ih e
  have hnP : ∀ x, P x → x ∈ t.stk := ht.gr
  have hcls : ∀ j, (setL (i :: seg)).testBit j = true ↔ Pt l i j ∧ Pt l j i := fun j => by
    rw [setL_bit]
    constructor
    · intro hj
      have hjs : j ∈ u.stk := (hmem j).2 (.inr hj)
      have hij : u.m i ≤ u.m j := by
        rcases List.mem_cons.1 hj with rfl | hj'
        · exact Nat.le_refl _
        · exact Nat.le_of_lt (List.rel_of_pairwise_cons hmo.2.1 hj')
      refine ⟨h.inv.fwd i j (.inl rfl) hjs hij, ?_⟩
      obtain ⟨x, g1, _, g3⟩ := h.inv.bck j hjs
      rcases g1 with rfl | g1
      · exact g3
      · exfalso
        rcases hpath j x (.inl hj) g3 with h4 | ⟨_, h4⟩
        · exact hsep x (hnP x g1) h4
        · exact h4 ((hmem x).2 (.inl (hnP x g1)))
    · rintro ⟨g1, g2⟩
      rcases hpath i j (.inl (List.mem_cons_self ..)) g1 with h4 | ⟨h4, h5⟩
      · exact h4
      · exact absurd ((hmem i).2 (.inr (List.mem_cons_self ..))) (h.inv.pop_path h4 h5 g2).2
  have hlt : ∀ x, 0 < u.m x → x < 64 := fun x hx => by
    have h1 := m_lt hx
    rw [h.inv.ml] at h1
    have := hg.1
    omega
  have hb1 : B64 u.on := B64.of_bits fun j hj => hlt j (h.inv.stm j ((h.inv.onb j).1 hj))
  have hb2 : B64 (setL (i :: seg)) := B64.of_bits fun j hj => hlt j (h.inv.stm j ((hmem j).2 (.inr ((setL_bit _ j).1 hj))))
  have hmi : 0 < u.m i := by rw [h.me]; omega
  have pop : ∀ x, 0 < u.m x → x ∉ t.stk → (x ∈ i :: seg ∨ (0 < u.m x ∧ x ∉ u.stk)) := fun x h1 h2 => by
    by_cases hx : x ∈ u.stk
    · exact .inl (((hmem x).1 hx).resolve_left h2)
    · exact .inr ⟨h1, hx⟩
  have pop' : ∀ x, (x ∈ i :: seg ∨ (0 < u.m x ∧ x ∉ u.stk)) → 0 < u.m x ∧ x ∉ t.stk := fun x hx => by
    rcases hx with hx | ⟨h1, h2⟩
    · exact ⟨h.inv.stm x ((hmem x).2 (.inr hx)), fun hc => hsep x hc hx⟩
    · exact ⟨h1, fun hc => h2 ((hmem x).2 (.inl hc))⟩
  refine ⟨⟨h.inv.ml, h.inv.ll, ht.nd, ?_, fun j hj => h.inv.stm j ((hmem j).2 (.inl hj)), hmo.1, h.inv.now, h.inv.sur, ?_, ht.gr, ?_, fun x y hx hy => h.inv.fwd x y (.inr hx) ((hmem y).2 (.inl hy)), ?_, ?_, ?_, ?_⟩,
    by simp, h.old, h.new, hmi, by have := h.nw; exact Nat.le_of_succ_le this, h.lo, h.la, .inl ⟨he, rfl⟩, fun x hx => (by cases hx), ?_⟩
  · intro j
    show (minus u.on (setL (i :: seg))).testBit j = true ↔ j ∈ t.stk
    rw [minus_bit hb1 hb2, Bool.and_eq_true, h.inv.onb, hmem]
    constructor
    · rintro ⟨h1 | h1, h2⟩
      · exact h1
      · rw [(setL_bit _ j).2 h1] at h2; cases h2
    · intro h1
      refine ⟨.inl h1, ?_⟩
      cases hc : (setL (i :: seg)).testBit j with
      | false => rfl
      | true => exact absurd ((setL_bit _ j).1 hc) (hsep j h1)
  · intro x y h1 h2 hxy
    exact pop' y (hstep x y (pop x h1 h2) hxy)
  · intro x hx hn y hxy
    exact h.inv.blk x ((hmem x).2 (.inl hx)) (fun hc => hc.elim (fun e => hni (e ▸ hx)) hn) y hxy
  · intro y hy
    obtain ⟨x, g1, g2, g3⟩ := h.inv.bck y ((hmem y).2 (.inl hy))
    have := h.before hy
    exact ⟨x, g1.resolve_left (fun e => by rw [e] at g2; omega), g2, g3⟩
  · intro s hs
    rcases List.mem_append.1 hs with hs | hs
    · obtain ⟨x, g1, g2, g3⟩ := h.inv.out1 s hs
      exact ⟨x, g1, fun hc => g2 ((hmem x).2 (.inl hc)), g3⟩
    · rw [List.mem_singleton] at hs
      subst hs
      exact ⟨i, hmi, hni, hcls⟩
  · intro x h1 h2
    rcases pop x h1 h2 with hx | ⟨_, hx⟩
    · exact ⟨_, List.mem_append_right _ (List.mem_singleton_self _), (setL_bit _ x).2 hx⟩
    · obtain ⟨s, g1, g2⟩ := h.inv.out2 x h1 hx
      exact ⟨s, List.mem_append_left _ g1, g2⟩
  · show (u.out ++ [setL (i :: seg)]).Pairwise _
    rw [List.pairwise_append]
    refine ⟨h.inv.out3, List.pairwise_singleton _ _, fun a ha b hb j hj => ?_⟩
    rw [List.mem_singleton] at hb
    subst hb
    obtain ⟨x, g1, g2, g3⟩ := h.inv.out1 a ha
    have := (h.inv.pop_path g1 g2 ((g3 j).1 hj).1).2
    cases hc : (setL (i :: seg)).testBit j with
    | false => rfl
    | true => exact absurd ((hmem j).2 (.inr ((setL_bit _ j).1 hc))) this
  · show (u.out ++ [setL (i :: seg)]).length + t.now ≤ t.out.length + u.now
    rw [List.length_append]
    have := h.od
    simp
    omega
theorem leave_vis {l : List Nat} {t u : Tj} {P : Nat → Prop} {i : Nat} {seg : List Nat} (ht : TjInv l t P) (hg : Good l) (h0 : t.m i = 0) (h : Lp l t P i (nums (rowAt l i)) u seg) : ∃ seg', Vis l t P i (leaveT i u) seg' := by
  by_cases he : u.l i = u.m i
  · exact ⟨[], leave_yes ht hg h0 h he⟩
  · refine ⟨i :: seg, ?_⟩
    unfold leaveT
    rw [if_neg he]
    exact leave_no ht hg h0 h he
theorem kids_lp {l : List Nat} {t : Tj} {P : Nat → Prop} {i : Nat} (v : Nat → Tj → Tj) (ht : TjInv l t P) (hi : i < l.length)
    (hv : ∀ ks u seg k, Lp l t P i ks u seg → u.m k = 0 → Ed l i k → ∃ seg', Vis l u (fun x => x = i ∨ P x) k (v k u) seg') :
    ∀ (rest ks : List Nat) (u : Tj) (seg : List Nat), (∀ k ∈ rest, Ed l i k) → Lp l t P i ks u seg → ∃ seg', Lp l t P i (ks ++ rest) (rest.foldl (kidT v i) u) seg'
  | [], ks, u, seg, _, h => ⟨seg, by rw [List.append_nil]; exact h⟩
  | k :: rest, ks, u, seg, hr, h => by
    have he := hr k (List.mem_cons_self ..)
    have hnext : ∃ seg', Lp l t P i (ks ++ [k]) (kidT v i u k) seg' := by
      unfold kidT
      by_cases hk : u.m k = 0
      · rw [if_pos hk]
        obtain ⟨seg', hvis⟩ := hv ks u seg k h hk he
        exact ⟨_, kid_new ht hi h hk he hvis⟩
      · rw [if_neg hk]
        by_cases hon : u.on.testBit k = true
        · rw [if_pos hon]
          exact ⟨seg, kid_on ht hi h hk ((h.inv.onb k).1 hon) he⟩
        · rw [if_neg hon]
          exact ⟨seg, kid_off h hk (fun hc => hon ((h.inv.onb k).2 hc))⟩
    obtain ⟨seg', h'⟩ := hnext
    obtain ⟨seg'', h''⟩ := kids_lp v ht hi hv rest (ks ++ [k]) _ seg' (fun q hq => hr q (List.mem_cons_of_mem _ hq)) h'
    exact ⟨seg'', by rw [List.append_assoc] at h''; exact h''⟩
theorem visit_vis {l : List Nat} (hg : Good l) : ∀ (f : Nat) (t : Tj) (P : Nat → Prop) (i : Nat) (U : List Nat), TjInv l t P → i < l.length → t.m i = 0 → (∀ x, P x → Pt l x i) → (∀ j, j < l.length → t.m j = 0 → j ∈ U) → U.length ≤ f → ∃ seg, Vis l t P i (visit l f i t) seg
  | 0, t, P, i, U, _, hi, h0, _, hU, hl => by
    have := hU i hi h0
    rw [List.eq_nil_of_length_eq_zero (Nat.le_zero.1 hl)] at this
    cases this
  | f + 1, t, P, i, U, ht, hi, h0, hP, hU, hl => by
    have hstart := enter_lp ht hi h0 hP
    obtain ⟨seg, hk⟩ := kids_lp (visit l f) ht hi (fun ks u seg k h hk he => by
      refine visit_vis hg f u _ k (U.erase i) h.inv (hg.2 i k he) hk ?_ ?_ ?_
      · rintro x (rfl | hx)
        · exact Ed.pt he
        · exact (hP x hx).edge he
      · intro j hj hj0
        have hji : j ≠ i := fun e => by have := h.me; rw [e] at hj0; omega
        refine (List.mem_erase_of_ne hji).2 (hU j hj ?_)
        apply Classical.byContradiction
        intro hc
        have := h.old j (Nat.pos_of_ne_zero hc)
        omega
      · rw [List.length_erase_of_mem (hU i hi h0)]
        omega) (nums (rowAt l i)) [] _ _ (fun k hk => (mem_nums (hg.b64 _)).1 hk) hstart
    rw [List.nil_append] at hk
    exact leave_vis ht hg h0 hk
end Go.Proofs.YtonmkmghpiagjaaDoor
