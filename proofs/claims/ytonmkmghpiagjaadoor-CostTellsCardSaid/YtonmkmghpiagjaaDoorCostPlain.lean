/- Plain law of package cost: right times added and compared; the times when all are done; the way that takes longest. -/
import Derived.Test.YtonmkmghpiagjaaDoorSpanPlain
import Derived.Test.YtonmkmghpiagjaaDoorLevPlain
import Derived.Test.YtonmkmghpiagjaaDoorOwn
namespace Go.Proofs.YtonmkmghpiagjaaDoor

/-! ### Right times -/
def RT (x : UInt64) : Prop := x.toNat ≤ 9218868437227405312
theorem read_rt {b : Nat} (h : b ≤ 9218868437227405312) : (∃ m i, FloatKind.f64.format.read b = .number false m i) ∨ FloatKind.f64.format.read b = .infinity false := by
  have hmod : b % 9223372036854775808 = b := Nat.mod_eq_of_lt (by omega)
  have hdiv : b / 9223372036854775808 = 0 := Nat.div_eq_of_lt (by omega)
  have e1 : FloatKind.f64.format.signWeight = 9223372036854775808 := rfl
  have e2 : FloatKind.f64.format.binade = 4503599627370496 := rfl
  have e3 : FloatKind.f64.format.infRung = 9218868437227405312 := rfl
  unfold Ieee.Format.read
  rw [e1, e2, e3]
  dsimp only
  rw [hmod, hdiv]
  by_cases h1 : b < 4503599627370496
  · rw [if_pos h1]
    exact .inl ⟨_, _, rfl⟩
  · rw [if_neg h1]
    by_cases h2 : b < 9218868437227405312
    · rw [if_pos h2]
      exact .inl ⟨_, _, rfl⟩
    · rw [if_neg h2, if_pos (by omega)]
      exact .inr rfl
theorem near_le (m : Nat) (i : Int) : FloatKind.f64.format.nearest false m i ≤ 9218868437227405312 := by
  have e3 : FloatKind.f64.format.infRung = 9218868437227405312 := rfl
  unfold Ieee.Format.nearest Ieee.Format.word
  rw [e3]
  split
  · simp
  · dsimp only
    simp only [Bool.false_eq_true, if_false]
    exact Nat.min_le_right _ _
theorem fadd_rt {a b : Nat} (ha : a ≤ 9218868437227405312) (hb : b ≤ 9218868437227405312) : ∃ r, fadd a b = some r ∧ r ≤ 9218868437227405312 := by
  have e3 : FloatKind.f64.format.write (.infinity false) = 9218868437227405312 := rfl
  unfold fadd Ieee.Format.add
  rcases read_rt ha with ⟨m, i, h1⟩ | h1 <;> rcases read_rt hb with ⟨n, j, h2⟩ | h2 <;> rw [h1, h2]
  · unfold Ieee.Datum.sum
    dsimp only
    generalize hs : Ieee.signed false m (i - min i j).toNat + Ieee.signed false n (j - min i j).toNat = T
    have hT : 0 ≤ T := by
      rw [← hs]
      unfold Ieee.signed
      simp only [Bool.false_eq_true, if_false]
      exact Int.add_nonneg (Int.natCast_nonneg _) (Int.natCast_nonneg _)
    have hneg : (if T = 0 then (false && false) else decide (T < 0)) = false := by
      split
      · rfl
      · simp; omega
    rw [hneg]
    exact ⟨_, rfl, near_le _ _⟩
  · exact ⟨_, rfl, by rw [e3]; exact Nat.le_refl _⟩
  · exact ⟨_, rfl, by rw [e3]; exact Nat.le_refl _⟩
  · exact ⟨_, rfl, by rw [e3]; exact Nat.le_refl _⟩
theorem ord_int (a b : Int) : compare b a = (compare a b).swap := by
  simp only [compare, compareOfLessAndEq]
  by_cases h1 : a < b
  · have h2 : ¬ b < a := by omega
    have h3 : ¬ b = a := by omega
    simp [h1, h2, h3]
  · by_cases h2 : b < a
    · have h3 : ¬ a = b := by omega
      simp [h1, h2, h3]
    · have h3 : a = b := by omega
      subst h3
      simp
theorem order_rt {a b : Nat} (ha : a ≤ 9218868437227405312) (hb : b ≤ 9218868437227405312) : ∃ o, FloatKind.f64.format.order a b = some o ∧ FloatKind.f64.format.order b a = some o.swap := by
  unfold Ieee.Format.order
  rcases read_rt ha with ⟨m, i, h1⟩ | h1 <;> rcases read_rt hb with ⟨n, j, h2⟩ | h2 <;> rw [h1, h2]
  · unfold Ieee.Datum.order
    dsimp only
    refine ⟨_, rfl, ?_⟩
    rw [Int.min_comm j i, ord_int]
  · exact ⟨_, rfl, rfl⟩
  · exact ⟨_, rfl, rfl⟩
  · exact ⟨_, rfl, rfl⟩
theorem order_same {a : Nat} (ha : a ≤ 9218868437227405312) : FloatKind.f64.format.order a a = some .eq := by
  obtain ⟨o, h1, h2⟩ := order_rt ha ha
  rw [h1] at h2
  injection h2 with h2
  rw [h1]
  cases o <;> simp [Ordering.swap] at h2 ⊢
/-- Is x greater than y? -/
def gtT (x y : UInt64) : Bool := FloatKind.f64.format.order x.toNat y.toNat == some .gt
theorem gtT_same {x : UInt64} (h : RT x) : gtT x x = false := by
  unfold gtT
  rw [order_same h]
  rfl
/-- The greater one. -/
def bigT (b v : UInt64) : UInt64 := if gtT v b then v else b
theorem bigT_rt {b v : UInt64} (hb : RT b) (hv : RT v) : RT (bigT b v) := by unfold bigT; split <;> assumption
theorem rt_zero : RT 0 := by unfold RT; simp
def addT (x y : UInt64) : UInt64 := UInt64.ofNat ((fadd x.toNat y.toNat).getD 0)
theorem addT_is {x y : UInt64} (hx : RT x) (hy : RT y) : fadd x.toNat y.toNat = some (addT x y).toNat ∧ RT (addT x y) := by
  obtain ⟨r, h1, h2⟩ := fadd_rt hx hy
  have e : (addT x y).toNat = r := by
    unfold addT
    rw [h1]
    simp
    omega
  rw [e]
  refine ⟨h1, ?_⟩
  unfold RT
  rw [e]
  exact h2
/-! ### The times when all are done -/
def beginT (f : Nat → UInt64) (L : List Nat) : UInt64 := L.foldl (fun b k => bigT b (f k)) 0
theorem beginT_snoc (f : Nat → UInt64) (L : List Nat) (k : Nat) : beginT f (L ++ [k]) = bigT (beginT f L) (f k) := by unfold beginT; rw [List.foldl_append]; rfl
theorem begin_congr (f g : Nat → UInt64) : ∀ (L : List Nat) (b : UInt64), (∀ k ∈ L, f k = g k) → L.foldl (fun b k => bigT b (f k)) b = L.foldl (fun b k => bigT b (g k)) b
  | [], _, _ => rfl
  | x :: L, b, h => by
    rw [List.foldl_cons, List.foldl_cons, h x (by simp)]
    exact begin_congr f g L _ (fun k hk => h k (by simp [hk]))
theorem beginT_congr {f g : Nat → UInt64} {L : List Nat} (h : ∀ k ∈ L, f k = g k) : beginT f L = beginT g L := begin_congr f g L 0 h
theorem begin_rt {f : Nat → UInt64} : ∀ (L : List Nat) (b : UInt64), RT b → (∀ k ∈ L, RT (f k)) → RT (L.foldl (fun b k => bigT b (f k)) b)
  | [], _, h, _ => h
  | x :: L, _, h, hf => begin_rt L _ (bigT_rt h (hf x (by simp))) (fun k hk => hf k (by simp [hk]))
theorem beginT_rt {f : Nat → UInt64} {L : List Nat} (h : ∀ k ∈ L, RT (f k)) : RT (beginT f L) := begin_rt L 0 rt_zero h
def doneF (l : List Nat) (d : Nat → UInt64) : Nat → Nat → UInt64
  | 0, i => d i
  | k + 1, i => addT (beginT (doneF l d k) (nums (rowAt l i))) (d i)
/-- When a number is done. -/
def tmT (l : List Nat) (d : Nat → UInt64) (i : Nat) : UInt64 := doneF l d l.length i
theorem done_rt {l : List Nat} {d : Nat → UInt64} (hd : ∀ i, RT (d i)) : ∀ k i, RT (doneF l d k i)
  | 0, i => hd i
  | k + 1, i => (addT_is (beginT_rt fun j _ => done_rt hd k j) (hd i)).2
theorem tm_rt {l : List Nat} {d : Nat → UInt64} (hd : ∀ i, RT (d i)) (i : Nat) : RT (tmT l d i) := done_rt hd _ i
theorem row_before {l : List Nat} (hg : Good l) {p i k : Nat} (hi : (ordL l)[p]? = some i) (hk : k ∈ nums (rowAt l i)) : ∃ q, q < p ∧ (ordL l)[q]? = some k := by
  have := ord_before hg hi ((mem_nums (hg.b64 i)).1 hk)
  obtain ⟨q, hq, hq2⟩ := List.mem_take_iff_getElem.1 this
  have hq' : q < min p (ordL l).length := hq
  exact ⟨q, by omega, by rw [List.getElem?_eq_getElem (show q < (ordL l).length by omega)]; exact congrArg some hq2⟩
theorem done_stable {l : List Nat} (hg : Good l) (d : Nat → UInt64) : ∀ p i, (ordL l)[p]? = some i → ∀ f g, p < f → p < g → doneF l d f i = doneF l d g i := by
  intro p
  induction p using Nat.strongRecOn with
  | _ p ih =>
    intro i hi f g hf hgp
    cases f with
    | zero => omega
    | succ f =>
      cases g with
      | zero => omega
      | succ g =>
        show addT (beginT (doneF l d f) _) _ = addT (beginT (doneF l d g) _) _
        rw [beginT_congr fun k hk => by
          obtain ⟨q, hq, hq2⟩ := row_before hg hi hk
          exact ih q hq k hq2 f g (by omega) (by omega)]
theorem tm_eq {l : List Nat} (hg : Good l) (hr : ordR l = 0) (d : Nat → UInt64) {i : Nat} (hi : i < l.length) : tmT l d i = addT (beginT (tmT l d) (nums (rowAt l i))) (d i) := by
  obtain ⟨p, hp, hpi⟩ := List.mem_iff_getElem.1 ((ord_mem hg hr i).2 hi)
  have hlen := ord_len hg
  exact done_stable hg d p i (by rw [List.getElem?_eq_getElem hp, hpi]) l.length (l.length + 1) (by omega) (by omega)
/-- Along the order: the first t are done. -/
def tmO (l : List Nat) (d : Nat → UInt64) (t x : Nat) : UInt64 := if x ∈ (ordL l).take t then tmT l d x else 0
theorem tmO_start (l : List Nat) (d : Nat → UInt64) (x : Nat) : tmO l d 0 x = 0 := by unfold tmO; simp
theorem tmO_end {l : List Nat} (hg : Good l) (hr : ordR l = 0) (d : Nat → UInt64) {x t : Nat} (hx : x < l.length) (ht : (ordL l).length ≤ t) : tmO l d t x = tmT l d x := by
  unfold tmO
  rw [List.take_of_length_le ht, if_pos ((ord_mem hg hr x).2 hx)]
theorem tmO_row {l : List Nat} (hg : Good l) (d : Nat → UInt64) {t i k : Nat} (hi : (ordL l)[t]? = some i) (hk : k ∈ nums (rowAt l i)) : tmO l d t k = tmT l d k := by
  unfold tmO
  rw [if_pos (ord_before hg hi ((mem_nums (hg.b64 i)).1 hk))]
theorem tmO_step {l : List Nat} (hg : Good l) (hr : ordR l = 0) (d : Nat → UInt64) {t i : Nat} (hi : (ordL l)[t]? = some i) (x : Nat) :
    (if x = i then addT (beginT (tmO l d t) (nums (rowAt l i))) (d i) else tmO l d t x) = tmO l d (t + 1) x := by
  have hil : i < l.length := (ord_mem hg hr i).1 (List.mem_of_getElem? hi)
  have htk : (ordL l).take (t + 1) = (ordL l).take t ++ [i] := by rw [List.take_add_one, hi]; rfl
  by_cases h : x = i
  · subst h
    rw [if_pos rfl, beginT_congr (g := tmT l d) (fun k hk => tmO_row hg d hi hk), ← tm_eq hg hr d hil]
    unfold tmO
    rw [htk, if_pos (by simp)]
  · rw [if_neg h]
    unfold tmO
    rw [htk]
    have e : (x ∈ (ordL l).take t ++ [i]) ↔ x ∈ (ordL l).take t := by
      rw [List.mem_append, List.mem_singleton]
      exact ⟨fun h' => h'.resolve_right h, .inl⟩
    simp only [e]
theorem tmO_rt {l : List Nat} {d : Nat → UInt64} (hd : ∀ i, RT (d i)) (t x : Nat) : RT (tmO l d t x) := by
  unfold tmO
  split
  · exact tm_rt hd x
  · exact rt_zero
/-! ### Round by round -/
/-- Of round q the numbers below i are through. -/
def DtIn (l : List Nat) (d : Nat → UInt64) (q i : Nat) (f : Nat → UInt64) : Prop :=
  (∀ x, RT (f x)) ∧ ∀ p x, (ordL l)[p]? = some x → (p < q ∨ (p < q + 1 ∧ x < i)) → f x = tmT l d x
theorem dtIn_start {l : List Nat} {d : Nat → UInt64} (hd : ∀ i, RT (d i)) : DtIn l d 0 0 d := ⟨hd, fun p x _ h => by omega⟩
theorem dtIn_step {l : List Nat} (hg : Good l) (hr : ordR l = 0) {d : Nat → UInt64} (hd : ∀ i, RT (d i)) {q i : Nat} {f : Nat → UInt64} (h : DtIn l d q i f) :
    DtIn l d q (i + 1) (fun x => if x = i then addT (beginT f (nums (rowAt l i))) (d i) else f x) := by
  refine ⟨fun x => ?_, fun p x hp hx => ?_⟩
  · dsimp only
    split
    · exact (addT_is (beginT_rt fun k _ => h.1 k) (hd i)).2
    · exact h.1 x
  · dsimp only
    by_cases hxi : x = i
    · subst hxi
      rw [if_pos rfl, tm_eq hg hr d ((ord_mem hg hr x).1 (List.mem_of_getElem? hp))]
      rw [beginT_congr fun k hk => by
        obtain ⟨q', hq, hq2⟩ := row_before hg hp hk
        exact h.2 q' k hq2 (.inl (by omega))]
    · rw [if_neg hxi]
      exact h.2 p x hp (by omega)
theorem dtIn_round {l : List Nat} (hg : Good l) (hr : ordR l = 0) {d : Nat → UInt64} {q : Nat} {f : Nat → UInt64} (h : DtIn l d q l.length f) : DtIn l d (q + 1) 0 f :=
  ⟨h.1, fun p x hp hx => h.2 p x hp (by
    have := (ord_mem hg hr x).1 (List.mem_of_getElem? hp)
    omega)⟩
theorem dtIn_end {l : List Nat} (hg : Good l) (hr : ordR l = 0) {d : Nat → UInt64} {f : Nat → UInt64} (h : DtIn l d l.length 0 f) {x : Nat} (hx : x < l.length) : f x = tmT l d x := by
  obtain ⟨p, hp, hpx⟩ := List.mem_iff_getElem.1 ((ord_mem hg hr x).2 hx)
  have := ord_len hg
  exact h.2 p x (by rw [List.getElem?_eq_getElem hp, hpx]) (.inl (by omega))
/-! ### The way that takes longest -/
def bestF (t : Nat → UInt64) (b : Nat) (L : List Nat) : Nat := L.foldl (fun b n => if gtT (t n) (t b) then n else b) b
theorem bestF_snoc (t : Nat → UInt64) (b : Nat) (L : List Nat) (n : Nat) : bestF t b (L ++ [n]) = if gtT (t n) (t (bestF t b L)) then n else bestF t b L := by unfold bestF; rw [List.foldl_append]; rfl
theorem bestF_mem (t : Nat → UInt64) : ∀ (L : List Nat) (b : Nat), bestF t b L = b ∨ bestF t b L ∈ L
  | [], _ => .inl rfl
  | x :: L, b => by
    unfold bestF
    rw [List.foldl_cons]
    rcases bestF_mem t L (if gtT (t x) (t b) then x else b) with h | h
    · unfold bestF at h
      rw [h]
      split
      · exact .inr (by simp)
      · exact .inl rfl
    · exact .inr (by simp only [List.mem_cons]; exact .inr h)
/-- The first of those that take longest. -/
def bestT (t : Nat → UInt64) (L : List Nat) : Nat := bestF t (L[0]?.getD 0) L
theorem bestT_mem (t : Nat → UInt64) {L : List Nat} (h : 0 < L.length) : bestT t L ∈ L := by
  unfold bestT
  rcases bestF_mem t L (L[0]?.getD 0) with e | e
  · rw [e]; simp [h]
  · exact e
theorem best_one {t : Nat → UInt64} (ht : ∀ x, RT (t x)) (b : Nat) : bestF t b [b] = b := by
  unfold bestF
  simp [gtT_same (ht b)]
def wayF (l : List Nat) (t : Nat → UInt64) : Nat → Nat → List Nat
  | 0, _ => []
  | k + 1, s => if s = 0 then [] else bestT t (nums s) :: wayF l t k (rowAt l (bestT t (nums s)))
theorem wayF_zero (l : List Nat) (t : Nat → UInt64) (k : Nat) : wayF l t k 0 = [] := by cases k <;> simp [wayF]
/-- Where the walk stands: so far pre, s is next. -/
structure WayAt (l : List Nat) (t : Nat → UInt64) (pre : List Nat) (s p : Nat) : Prop where
  len : pre.length + p = l.length
  all : wayF l t l.length (upTo l.length) = pre ++ wayF l t p s
  inn : ∀ k, k ∈ nums s → ∃ q, q < p ∧ (ordL l)[q]? = some k
  b64 : B64 s
theorem wayAt_start {l : List Nat} (hg : Good l) (hr : ordR l = 0) (t : Nat → UInt64) : WayAt l t [] (upTo l.length) l.length := by
  have hb := upTo_b64 hg.1
  refine ⟨by simp, by simp, fun k hk => ?_, hb⟩
  rw [mem_nums hb, upTo_bit, decide_eq_true_eq] at hk
  obtain ⟨p, hp, hpk⟩ := List.mem_iff_getElem.1 ((ord_mem hg hr k).2 hk)
  have := ord_len hg
  exact ⟨p, by omega, by rw [List.getElem?_eq_getElem hp, hpk]⟩
theorem wayAt_step {l : List Nat} (hg : Good l) (hr : ordR l = 0) {t : Nat → UInt64} {pre : List Nat} {s p : Nat} (h : WayAt l t pre s p) (hs : s ≠ 0) :
    bestT t (nums s) < l.length ∧ ∃ q, p = q + 1 ∧ WayAt l t (pre ++ [bestT t (nums s)]) (rowAt l (bestT t (nums s))) q := by
  have hne : 0 < (nums s).length := List.length_pos_iff.2 (nums_ne h.b64 hs)
  have hm := bestT_mem t hne
  obtain ⟨q, hq, hqb⟩ := h.inn _ hm
  refine ⟨(ord_mem hg hr _).1 (List.mem_of_getElem? hqb), p - 1, by omega, ?_⟩
  have hl := h.len
  refine ⟨by simp; omega, ?_, fun k hk => ?_, hg.b64 _⟩
  · rw [h.all]
    obtain ⟨p', rfl⟩ : ∃ p', p = p' + 1 := ⟨p - 1, by omega⟩
    rw [wayF, if_neg hs]
    simp
  · obtain ⟨q', h1, h2⟩ := row_before hg hqb hk
    exact ⟨q', by omega, h2⟩
theorem wayAt_end {l : List Nat} {t : Nat → UInt64} {pre : List Nat} {p : Nat} (h : WayAt l t pre 0 p) : pre = wayF l t l.length (upTo l.length) := by
  rw [h.all, wayF_zero]
  simp
/-- The way. -/
def wayT (l : List Nat) (d : Nat → UInt64) : List Nat := wayF l (tmT l d) l.length (upTo l.length)
end Go.Proofs.YtonmkmghpiagjaaDoor
