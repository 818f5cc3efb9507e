/- Contract: norm.norm. Asks that are right, of at most 60 parts. -/
import Derived.Test.YtcodncddaemhlaaDoorNorm7
namespace Go.Proofs.YtcodncddaemhlaaDoor
open Go.RowKit

theorem exists_least {P : Nat → Prop} (h : ∃ n, P n) : ∃ n, P n ∧ ∀ m, P m → n ≤ m := by
  obtain ⟨n, hn⟩ := h
  induction n using Nat.strongRecOn with
  | ind n ih =>
    by_cases hm : ∃ m, m < n ∧ P m
    · obtain ⟨m, h1, h2⟩ := hm
      exact ih m h1 h2
    · exact ⟨n, hn, fun m hPm => by
        rcases Nat.lt_or_ge m n with h | h
        · exact absurd ⟨m, h, hPm⟩ hm
        · exact h⟩
noncomputable def least (P : Nat → Prop) : Nat := Classical.epsilon (fun n => P n ∧ ∀ m, P m → n ≤ m)
theorem least_spec {P : Nat → Prop} (h : ∃ n, P n) : P (least P) ∧ ∀ m, P m → least P ≤ m := Classical.epsilon_spec (exists_least h)
theorem blk_other {w : World} {b b' j : Nat} {t : TypeId} {vs : List Value} (h : Blk w b t vs) (hne : b ≠ b') (u : Value) : Blk (w.setCell ⟨b', j, none⟩ u) b t vs := by
  unfold Blk
  rw [Below.heap_setCell _ _ _ _ hne]
  exact h
theorem blk_other4 {w : World} {b b' : Nat} {t : TypeId} {vs : List Value} (h : Blk w b t vs) (hne : b ≠ b') (v1 v2 v3 v4 : Value) : Blk ((((w.setCell ⟨b', 0, none⟩ v1).setCell ⟨b', 1, none⟩ v2).setCell ⟨b', 2, none⟩ v3).setCell ⟨b', 3, none⟩ v4) b t vs := blk_other (blk_other (blk_other (blk_other h hne v1) hne v2) hne v3) hne v4
theorem askP_set {ok : Nat → Prop} {w : World} {x : AskT} {A : Option Addr} {c : Nat} (h : AskP ok w x A c) {b j : Nat} (hb : ¬ ok b) (v : Value) : AskP ok (w.setCell ⟨b, j, none⟩ v) x A c :=
  AskP.keep (fun k hk _ => by
    have hne : k ≠ b := fun e => hb (e ▸ hk)
    exact Below.heap_setCell _ _ _ _ hne) (by simp [World.setCell]) _ _ _ h
def NormPost (ok : Nat → Prop) (y : AskT) (w : World) (e : Ending) (w' : World) : Prop :=
  ∃ A c, e = .returned (askV y A c) ∧ AskP (fun k => ok k ∨ w.heap.size ≤ k) w' y A c ∧ Below w.heap.size w w'
/-- The blocks that may hold what a call makes of its ask. -/
def PB (ok : Nat → Prop) (n : Nat) (k : Nat) : Prop := (ok k ∧ k < n) ∨ n + 2 ≤ k
/-- What holds between two rules. -/
def RelN (ok : Nat → Prop) (w : World) (R : AskT) (m : Nat) (v : Value) (wr : World) : Prop :=
  ∃ cur A c b, v = .bool b ∧ Blk wr w.heap.size 24 [.int .i64 cur.kind, .string ⟨cur.name.toArray⟩, .int .i64 cur.n, .slice A cur.X.length c] ∧ Blk wr (w.heap.size + 1) 24 [.int .i64 0, .string ⟨#[]⟩, .int .i64 0, .slice none 0 0] ∧
    AskP (PB ok w.heap.size) wr cur A c ∧ okA cur ∧ sizeA cur ≤ 60 ∧ topA cur = R ∧ (b = false → ruledA cur = none) ∧ Below w.heap.size w wr ∧ m = measN cur + (if b = true then 1 else 0)
set_option maxRecDepth 100000 in
set_option maxHeartbeats 4000000 in
theorem nNorm_any : ∀ (x : AskT) (A : Option Addr) (c : Nat) (w : World) (ok : Nat → Prop), AskP ok w x A c → okA x → sizeA x ≤ 60 → NTab w → Calls Tryd.prog 15 #[askV x A c] w (NormPost ok (normA x) w) := by
  refine askT_ind fun k s n X ih A c w ok hA hok hs hT => ?_
  have HIH := Lib.hid ih
  have HPX := Lib.hid (AskP.mono (ok' := fun j => ok j ∧ j < w.heap.size) (fun _ h1 h2 => ⟨h1, h2⟩) _ _ _ hA)
  have HOK := Lib.hid hok
  have HNT := Lib.hid hT
  have HS : Hid (1 + (X.map sizeA).sum ≤ 60) := Lib.hid (by rw [← sizeA_mk k s n X]; exact hs)
  have hm' : X.length ≤ 60 := by have := kids_le X; have := HS.out; omega
  have HKO := Lib.hid (kids_ok hok (fun y hy => norm_ok y (ok_kids hok y hy)))
  have HNA := Lib.hid (normA_mk k s n X)
  obtain ⟨y, hy⟩ := boxA_new w (.int .i64 k) (.string ⟨s.toArray⟩) (.int .i64 n) (.slice A X.length c) 24
  obtain ⟨r, hr⟩ := boxA_new (w.alloc (.cells #[.int .i64 k, .string ⟨s.toArray⟩, .int .i64 n, .slice A X.length c] 24)) (.int .i64 0) (.string ⟨#[]⟩) (.int .i64 0) (.slice none 0 0) 24
  have hbx := (Blk.new w #[.int .i64 k, .string ⟨s.toArray⟩, .int .i64 n, .slice A X.length c] 24).below hr (by simp)
  have hbr := Blk.new (w.alloc (.cells #[.int .i64 k, .string ⟨s.toArray⟩, .int .i64 n, .slice A X.length c] 24)) #[.int .i64 0, .string ⟨#[]⟩, .int .i64 0, .slice none 0 0] 24
  rw [show (w.alloc (.cells #[.int .i64 k, .string ⟨s.toArray⟩, .int .i64 n, .slice A X.length c] 24)).heap.size = w.heap.size + 1 by simp] at hbr
  have XB := Lib.hid hbx
  have RB := Lib.hid hbr
  have HY := Lib.hid (below_newA hy hr)
  have HZ0 : Hid (((w.alloc (.cells #[.int .i64 k, .string ⟨s.toArray⟩, .int .i64 n, .slice A X.length c] 24)).alloc (.cells #[.int .i64 0, .string ⟨#[]⟩, .int .i64 0, .slice none 0 0] 24)).heap.size = w.heap.size + 2) := Lib.hid (by simp)
  clear ih hA hok hs hT y hy r hr hbr hbx
  unfold askV
  simp only [AskT.kind, AskT.name, AskT.n, AskT.X]
  generalize hNR : normA (.mk k s n X) = NR at *
  clear hNR
  generalize hbs : (⟨s.toArray⟩ : ByteArray) = bs at *
  have HBS := Lib.hid hbs
  clear hbs
  go_enter Tryd.func15, Tryd.ntmps15
  go_upto_region 1 with fail
  generalize (w.alloc (.cells #[.int .i64 k, .string bs, .int .i64 n, .slice A X.length c] 24)).alloc (.cells #[.int .i64 0, .string ⟨#[]⟩, .int .i64 0, .slice none 0 0] 24) = w0 at *
  obtain ⟨BX, hBX⟩ : ∃ BX, BX = w.heap.size := ⟨_, rfl⟩
  have HBXE := Lib.hid hBX
  rw [← hBX] at XB RB HZ0 ⊢
  clear hBX
  have y1 := XB.out.cell (j := 0) rfl
  have y2 := XB.out.cell (j := 1) rfl
  have y3 := XB.out.cell (j := 2) rfl
  have y4 := XB.out.cell (j := 3) rfl
  go_wp2_with fail
  go_loopw [3, 5, 10] (fun v3 _ i wr => ∃ j : Nat, i = .int .i64 (j : Int) ∧ j ≤ X.length ∧ Hid (MadeIs (PB ok w.heap.size) w0.heap.size ((X.map normA).take j) v3 wr) ∧ Hid (Below w0.heap.size w0 wr)) (fun _ _ i _ => X.length - (intOf i).toNat)
  case atStart => exact ⟨0, rfl, by omega, Lib.hid ⟨none, 0, [], rfl, rfl, World.ownsRow_nil _ _ _ _, fun i x a hx _ => by simp at hx⟩, Lib.hid (Below.refl _ _)⟩
  case round =>
    obtain ⟨j, rfl, hj, HI, HB⟩ := hrel
    obtain ⟨A3, c3, ac, rfl, hac, ho3, hk3⟩ := HI.out
    have HBW := Lib.hid (below_newA HY.out HB.out)
    by_cases hlt : j < X.length
    · obtain ⟨x, hx⟩ : ∃ x, X[j]? = some x := ⟨_, List.getElem?_eq_getElem hlt⟩
      obtain ⟨b, off, A', c', rfl, e1, e2, e3, e4, hch⟩ := AskP.child (askP_below HPX.out HBW.out) hx
      have HTS : Hid ((X.map normA).take (j + 1) = (X.map normA).take j ++ [normA x]) := Lib.hid (by
        rw [List.take_add_one, List.getElem?_map, hx]
        rfl)
      obtain ⟨u, hu⟩ := boxA_new wr (.int .i64 x.kind) (.string ⟨x.name.toArray⟩) (.int .i64 x.n) (.slice A' x.X.length c') 24
      have U := Lib.hid u
      have HU := Lib.hid hu
      have HXS : Hid (sizeA x ≤ 60) := Lib.hid (by
        have h1 : (X.map sizeA)[j]? = some (sizeA x) := by rw [List.getElem?_map, hx]; rfl
        have h2 := sum_take_succ h1
        have h3 := sum_take_le (X.map sizeA) (j + 1)
        have := HS.out
        omega)
      have HC := Lib.hid (HIH.out x (List.mem_of_getElem? hx) A' c' _ (fun j => ok j ∧ j < w.heap.size) (askP_below hch hu) (ok_kids HOK.out x (List.mem_of_getElem? hx)) HXS.out (HNT.out.below (below_newA HBW.out hu)))
      have HO3 := Lib.hid ho3
      have HK3 := Lib.hid hk3
      have HAC := Lib.hid hac
      have HLL : Hid (((X.map normA).take j).length ≤ 60) := Lib.hid (by have := List.length_take_le j (X.map normA); omega)
      unfold NormPost askV at HC
      have hj1 : (j : Int) < (X.length : Int) := by omega
      clear hx hch u hu ho3 hk3 hac HI
      generalize hbx : (⟨x.name.toArray⟩ : ByteArray) = bx at *
      clear hbx
      generalize x.kind = xk at *
      generalize x.n = xn at *
      generalize x.X.length = xm at *
      have HYY : Hid ([Value.int .i64 (normA x).kind, .string ⟨(normA x).name.toArray⟩, .int .i64 (normA x).n] = [Value.int .i64 (normA x).kind, .string ⟨(normA x).name.toArray⟩, .int .i64 (normA x).n]) := Lib.hid rfl
      generalize hn1 : (⟨(normA x).name.toArray⟩ : ByteArray) = nb at *
      generalize hn2 : (normA x).kind = nk at *
      generalize hn3 : (normA x).n = nn at *
      generalize hn4 : (normA x).X.length = nl at *
      have HN4 := Lib.hid (show _ ∧ _ ∧ _ ∧ _ from ⟨hn1, hn2, hn3, hn4⟩)
      clear hn1 hn2 hn3 hn4 HYY
      generalize hLj : (X.map normA).take j = Lj at *
      clear hLj
      go_upto_region 5 with fail
      generalize hw5 : wr.alloc (.cells #[.int .i64 xk, .string bx, .int .i64 xn, .slice A' xm c'] 24) = w5 at *
      have HZ5 : Hid (w5.heap.size = wr.heap.size + 1) := Lib.hid (by rw [← hw5]; simp)
      clear hw5
      obtain ⟨u1, u2, u3, u4⟩ := U.out
      go_wp2_with fail
      refine HC.out.mono ?_
      rintro e w6 ⟨A6, c6, rfl, hat6, hb6⟩
      have HAT6 := Lib.hid hat6
      have HB6 := Lib.hid (below_newA HU.out hb6)
      have HO6 := Lib.hid (own_belowK HO3.out HB6.out)
      have hsz6 : w0.heap.size ≤ w6.heap.size := (below_newA HB.out HB6.out).size
      have hLL := HLL.out
      clear hat6 hb6 u1 u2 u3 u4 y1 y2 y3 y4
      go_wp2_with (at_builtin; refine wpList_pushAsk w6 _ _ w0.heap.size A3 Lj.length c3 _ (.int .i64 nk) (.string nb) (.int .i64 nn) (.slice A6 nl c6) (by intro u hu; simp at hu; rcases hu with rfl | rfl | rfl | rfl <;> rfl) HO6.out hsz6 (by omega) rfl rfl rfl rfl ?_; intro A7 c7 w7 hown7 hb7 hg7 hat7)
      refine ⟨⟨j + 1, rfl, by omega, Lib.hid ?_, Lib.hid ((below_newA HB.out HB6.out).trans hb7)⟩, measA hlt⟩
      rw [HTS.out]
      obtain ⟨g1, g2, g3, g4⟩ := HN4.out
      refine made_push (x := normA x) (a := (A6, c6)) HAC.out HK3.out HB6.out (AskP.mono (fun t ht _ => ?_) _ _ _ HAT6.out) (by rw [g1, g2, g3, g4]; exact hown7) hg7 hat7
      have hz := HZ0.out
      have hz5 := HZ5.out
      have hbe := HBXE.out
      have hbs := HB.out.size
      refine ⟨ht.elim (fun h => .inl h) (fun h => .inr (by omega)), fun e => ?_⟩
      have hl := HO3.out.lt t e.symm
      rcases ht with h | h
      · have := h.2; omega
      · omega
    · obtain rfl : j = X.length := by omega
      have HMA := Lib.hid (made_ask HI.out k s n)
      rw [List.take_of_length_le (by simp)] at HMA
      obtain ⟨A9, c9, hA9, hat9⟩ := HMA.out
      have HLN : Hid (((X.map normA).take X.length).length = X.length) := Lib.hid (by simp)
      rw [HLN.out]
      rw [List.length_map] at hA9
      injection hA9 with h1 h2 h3
      subst h1 h3
      have HAT9 := Lib.hid hat9
      have XB4 := Lib.hid (XB.out.below HB.out XB.out.lt)
      have RB4 := Lib.hid (RB.out.below HB.out RB.out.lt)
      clear h2 hat9 y1 y2 y3 y4 HMA HI ho3 hk3 hac HIH
      have y1 := XB4.out.cell (j := 0) rfl
      have y2 := XB4.out.cell (j := 1) rfl
      have y3 := XB4.out.cell (j := 2) rfl
      have y4 := XB4.out.cell (j := 3) rfl
      have yf := XB4.out.free
      go_upto_region 8 with fail
      have HPZ := Lib.hid (askP_set (AskP.mono (ok' := PB ok BX) (fun j hj _ => hj.elim (fun h => by rw [HBXE.out]; exact h) (fun h => .inr (by have := HZ0.out; omega))) _ _ _ HAT9.out) (b := BX) (j := 3) (by rintro (h | h); have := h.2; omega; omega) (.slice A3 X.length c3))
      have XB5 := Lib.hid (XB4.out.same 3 (.slice A3 X.length c3))
      have RB5 := Lib.hid (blk_other (j := 3) RB4.out (by omega : BX + 1 ≠ BX) (.slice A3 X.length c3))
      have HB5 := Lib.hid (Below.setCell (p := ⟨BX, 3, none⟩) HBW.out (by show w.heap.size ≤ BX; rw [HBXE.out]; exact Nat.le_refl _) (.slice A3 X.length c3))
      generalize hw2 : wr.setCell ⟨BX, 3, none⟩ (.slice A3 X.length c3) = w2 at *
      clear hw2 y1 y2 y3 y4 yf XB4 RB4 HAT9 XB RB HB
      have HTOP : Hid (topA (.mk k s n (X.map normA)) = NR) := Lib.hid HNA.out.symm
      have HR0 : Hid (RelN ok w NR (measN (.mk k s n (X.map normA)) + 1) (.bool true) w2) := Lib.hid ⟨.mk k s n (X.map normA), A3, c3, true, rfl, by rw [← HBXE.out]; simpa [AskT.kind, AskT.name, AskT.n, AskT.X, HBS.out] using XB5.out, by rw [← HBXE.out]; exact RB5.out, by rw [← HBXE.out]; exact HPZ.out, HKO.out.1, by have h1 := HKO.out.2.2; have h2 := HS.out; rw [sizeA_mk k s n X] at h1; omega, HTOP.out, (fun h => by cases h), HB5.out, rfl⟩
      clear XB5 RB5 HPZ HB5 HTOP HPX HKO HNA HBW
      go_wp2_with fail
      go_loopw [6] (fun v6 wr => ∃ m, RelN ok w NR m v6 wr) (fun v6 wr => least (fun m => RelN ok w NR m v6 wr))
      case atStart => exact ⟨_, HR0.out⟩
      case round =>
        have HLS := Lib.hid (least_spec hrel)
        obtain ⟨cur, Ac, cc, b, rfl, hxb, hrb, hat, hok, hsz, htop, hnone, hbw, hm⟩ := HLS.out.1
        have HM := Lib.hid hm
        rw [← HBXE.out] at hxb hrb hat
        have HXB := Lib.hid hxb
        have HRB := Lib.hid hrb
        have HAT := Lib.hid hat
        have HBW := Lib.hid hbw
        have HVC : Hid (askV cur Ac cc = .agg #[.int .i64 cur.kind, .string ⟨cur.name.toArray⟩, .int .i64 cur.n, .slice Ac cur.X.length cc]) := Lib.hid rfl
        cases b with
        | false =>
          have HE : Hid (NR = cur) := Lib.hid (by rw [← htop]; exact topA_none (hnone rfl))
          clear hm hok hsz htop hnone hbw hat hrel
          generalize (⟨cur.name.toArray⟩ : ByteArray) = cn at *
          generalize cur.kind = ck at *
          generalize cur.n = cnn at *
          generalize cur.X.length = cl at *
          have y1 := HXB.out.cell (j := 0) rfl
          have y2 := HXB.out.cell (j := 1) rfl
          have y3 := HXB.out.cell (j := 2) rfl
          have y4 := HXB.out.cell (j := 3) rfl
          have rf := HRB.out.free
          have r1 := HRB.out.cell (j := 0) rfl
          have r2 := HRB.out.cell (j := 1) rfl
          have r3 := HRB.out.cell (j := 2) rfl
          have r4 := HRB.out.cell (j := 3) rfl
          clear hxb hrb
          go_wp2_with fail
          have RZ := Lib.hid (blk_put4 HRB.out (.int .i64 ck) (.string cn) (.int .i64 cnn) (.slice Ac cl cc))
          have BZ := Lib.hid (below_put4A HBW.out (by rw [HBXE.out]; omega : w.heap.size ≤ BX + 1) (.int .i64 ck) (.string cn) (.int .i64 cnn) (.slice Ac cl cc))
          have PZ := Lib.hid (AskP.mono (ok' := fun k => ok k ∨ w.heap.size ≤ k) (fun k hk _ => hk.elim (fun h => .inl h.1) (fun h => .inr (by have := HBXE.out; omega))) _ _ _ (HAT.out.put4 (b := BX + 1) (by rintro (h | h); have := h.2; omega; omega) (.int .i64 ck) (.string cn) (.int .i64 cnn) (.slice Ac cl cc)))
          generalize ((((wr.setCell ⟨BX + 1, 0, none⟩ (.int .i64 ck)).setCell ⟨BX + 1, 1, none⟩ (.string cn)).setCell ⟨BX + 1, 2, none⟩ (.int .i64 cnn)).setCell ⟨BX + 1, 3, none⟩ (.slice Ac cl cc)) = wz at *
          have q1 := RZ.out.cell (j := 0) rfl
          have q2 := RZ.out.cell (j := 1) rfl
          have q3 := RZ.out.cell (j := 2) rfl
          have q4 := RZ.out.cell (j := 3) rfl
          refine bodyPost_ret (v := .agg #[.int .i64 ck, .string cn, .int .i64 cnn, .slice Ac cl cc]) (by simp [results, Tryd.results15, go_sem, q1, q2, q3, q4]) rfl ?_
          exact ⟨Ac, cc, by rw [HE.out, HVC.out], by rw [HE.out]; exact PZ.out, BZ.out⟩
        | true =>
          have CT := Lib.hid (nRule_any cur Ac cc wr (PB ok BX) hat hok hsz (HNT.out.below hbw))
          have HNX : Hid (okA ((ruledA cur).getD cur) ∧ sizeA ((ruledA cur).getD cur) ≤ 60 ∧ topA ((ruledA cur).getD cur) = NR ∧ ((ruledA cur).isSome = false → ruledA ((ruledA cur).getD cur) = none) ∧ measN ((ruledA cur).getD cur) + (if (ruledA cur).isSome = true then 1 else 0) < measN cur + 1) := Lib.hid (by
            cases hr : ruledA cur with
            | none => exact ⟨hok, hsz, htop, fun _ => hr, by simp⟩
            | some y =>
              have hmd := ruled_made (P := fun _ => True) (fun _ _ _ _ => trivial) hok (fun _ _ => trivial) hr
              have h1 := hmd.less
              have h2 := hmd.size
              exact ⟨hmd.ok, by show sizeA y ≤ 60; omega, by rw [← htop]; exact (topA_some hok hr).symm, (fun h => by cases h), by show measN y + 1 < measN cur + 1; unfold measN; omega⟩)
          unfold RulePost askV at CT
          clear hm hok hsz htop hnone hbw hat hrel
          generalize (ruledA cur).getD cur = yv at *
          generalize (ruledA cur).isSome = bb at *
          generalize hcn : (⟨cur.name.toArray⟩ : ByteArray) = cn at *
          generalize hck : cur.kind = ck at *
          generalize hcnn : cur.n = cnn at *
          generalize hcl : cur.X.length = cl at *
          clear hcn hck hcnn hcl
          have y1 := HXB.out.cell (j := 0) rfl
          have y2 := HXB.out.cell (j := 1) rfl
          have y3 := HXB.out.cell (j := 2) rfl
          have y4 := HXB.out.cell (j := 3) rfl
          clear hxb hrb
          have HYV := Lib.hid (rfl : ([.int .i64 yv.kind, .string ⟨yv.name.toArray⟩, .int .i64 yv.n] : List Value) = [.int .i64 yv.kind, .string ⟨yv.name.toArray⟩, .int .i64 yv.n])
          generalize hyn : (⟨yv.name.toArray⟩ : ByteArray) = yn at *
          generalize hyk : yv.kind = yk at *
          generalize hynn : yv.n = ynn at *
          generalize hyl : yv.X.length = yl at *
          have HYE := Lib.hid (show _ ∧ _ ∧ _ ∧ _ from ⟨hyn, hyk, hynn, hyl⟩)
          clear hyn hyk hynn hyl HYV
          go_wp2_with fail
          refine CT.out.mono ?_
          rintro e w1 ⟨A1, c1, rfl, hat1, hb1⟩
          have HAT1 := Lib.hid hat1
          have HB1 := Lib.hid (below_newA HBW.out hb1)
          have HSZ1 := Lib.hid HBW.out.size
          have XB1 := Lib.hid (HXB.out.below hb1 HXB.out.lt)
          have RB1 := Lib.hid (HRB.out.below hb1 HRB.out.lt)
          have HLR := Lib.hid HRB.out.lt
          clear hat1 hb1 y1 y2 y3 y4
          have yf := XB1.out.free
          have y1 := XB1.out.cell (j := 0) rfl
          have y2 := XB1.out.cell (j := 1) rfl
          have y3 := XB1.out.cell (j := 2) rfl
          have y4 := XB1.out.cell (j := 3) rfl
          go_wp2_with fail
          have HNEW : RelN ok w NR (measN yv + (if bb = true then 1 else 0)) (.bool bb) ((((w1.setCell ⟨BX, 0, none⟩ (.int .i64 yk)).setCell ⟨BX, 1, none⟩ (.string yn)).setCell ⟨BX, 2, none⟩ (.int .i64 ynn)).setCell ⟨BX, 3, none⟩ (.slice A1 yl c1)) := by
            obtain ⟨g1, g2, g3, g4⟩ := HYE.out
            obtain ⟨k1, k2, k3, k4, k5⟩ := HNX.out
            refine ⟨yv, A1, c1, bb, rfl, ?_, ?_, ?_, k1, k2, k3, k4, below_put4A HB1.out (by rw [HBXE.out]; exact Nat.le_refl _) _ _ _ _, rfl⟩
            · rw [g1, g2, g3, g4, ← HBXE.out]
              exact blk_put4 XB1.out _ _ _ _
            · rw [← HBXE.out]
              exact blk_other4 RB1.out (by omega) _ _ _ _
            · rw [← HBXE.out]
              refine AskP.put4 (AskP.mono (fun k hk _ => hk.elim id (fun h => .inr (by have := HLR.out; have := HBXE.out; omega))) _ _ _ HAT1.out) (by rintro (h | h); have := h.2; omega; omega) _ _ _ _
          refine ⟨⟨_, HNEW⟩, Nat.lt_of_le_of_lt ((least_spec ⟨_, HNEW⟩).2 _ HNEW) ?_⟩
          rw [HM.out]
          exact HNX.out.2.2.2.2
end Go.Proofs.YtcodncddaemhlaaDoor
/- Contract: norm.Norm. -/
namespace Go.Proofs.YtcodncddaemhlaaDoor
open Go.RowKit

/-- What norm.Norm answers. -/
noncomputable def normE (x : AskT) : AskT := if askE x = 0 then normA x else .mk 0 [] 0 []
def NormTPost (y : AskT) (E : Nat) (w : World) (e : Ending) (w' : World) : Prop :=
  ∃ A c, e = .returned (.tuple #[askV y A c, .int .i64 ((E : Nat) : Int)]) ∧ AskAt w' y A c ∧ Below w.heap.size w w'
theorem askE_size {x : AskT} (h : askE x = 0) : sizeA x ≤ 60 := by
  unfold askE at h
  by_cases h2 : 60 < sizeA x
  · rw [if_pos h2] at h; cases h
  · omega
theorem askE_okA {x : AskT} (h : askE x = 0) : okA x := by
  have h2 := askE_size h
  unfold askE at h
  rw [if_neg (by omega)] at h
  exact h
set_option maxRecDepth 100000 in
set_option maxHeartbeats 1000000 in
theorem nNormT_any (x : AskT) (A : Option Addr) (c : Nat) (w : World) (hA : AskAt w x A c) (hok : AskOk x) (hs : sizeA x ≤ 1152921504606846976) (hF : FTab w) (hT : NTab w) : Calls Tryd.prog 5 #[askV x A c] w (NormTPost (normE x) (askE x) w) := by
  obtain ⟨y, hy⟩ := boxA_new w (.int .i64 x.kind) (.string ⟨x.name.toArray⟩) (.int .i64 x.n) (.slice A x.X.length c) 24
  obtain ⟨r, hr⟩ := boxA_new (w.alloc (.cells #[.int .i64 x.kind, .string ⟨x.name.toArray⟩, .int .i64 x.n, .slice A x.X.length c] 24)) (.int .i64 0) (.string ⟨#[]⟩) (.int .i64 0) (.slice none 0 0) 24
  have hbr := Blk.new (w.alloc (.cells #[.int .i64 x.kind, .string ⟨x.name.toArray⟩, .int .i64 x.n, .slice A x.X.length c] 24)) #[.int .i64 0, .string ⟨#[]⟩, .int .i64 0, .slice none 0 0] 24
  have hbx := (Blk.new w #[.int .i64 x.kind, .string ⟨x.name.toArray⟩, .int .i64 x.n, .slice A x.X.length c] 24).below hr (by simp)
  rw [show (w.alloc (.cells #[.int .i64 x.kind, .string ⟨x.name.toArray⟩, .int .i64 x.n, .slice A x.X.length c] 24)).heap.size = w.heap.size + 1 by simp] at hbr
  have XB := Lib.hid hbx
  have RB := Lib.hid hbr
  have HY := Lib.hid (below_newA hy hr)
  have CK := Lib.hid (aCheck_any x A c _ (AskAt.keep HY.out _ _ _ hA) hok hs (hF.below HY.out))
  have CT := Lib.hid (fun W (hb : Below w.heap.size w W) (h0 : askE x = 0) => nNorm_any x A c W (fun k => k < w.heap.size) (askP_below (AskP.of _ _ _ hA) hb) (askE_okA h0) (askE_size h0) (hT.below hb))
  have HR1 : Hid (askE x = 0 → normE x = normA x) := Lib.hid (fun h => by unfold normE; exact if_pos h)
  have HR0 : Hid (askE x ≠ 0 → normE x = .mk 0 [] 0 []) := Lib.hid (fun h => by unfold normE; exact if_neg h)
  have HSZ : Hid (((w.alloc (.cells #[.int .i64 x.kind, .string ⟨x.name.toArray⟩, .int .i64 x.n, .slice A x.X.length c] 24)).alloc (.cells #[.int .i64 0, .string ⟨#[]⟩, .int .i64 0, .slice none 0 0] 24)).heap.size = w.heap.size + 2) := Lib.hid (by simp)
  clear hA hok hs hF hT y hy r hr hbr hbx
  unfold NormPost at CT
  generalize normE x = R at *
  generalize normA x = NR at *
  unfold askV at *
  unfold CntPost at *
  generalize hbs : (⟨x.name.toArray⟩ : ByteArray) = bs at *
  clear hbs
  generalize askE x = E at *
  generalize x.kind = xk at *
  generalize x.n = xn at *
  generalize x.X.length = xm at *
  go_enter Tryd.func5, Tryd.ntmps5
  go_upto_region 1 with fail
  generalize (w.alloc (.cells #[.int .i64 xk, .string bs, .int .i64 xn, .slice A xm c] 24)).alloc (.cells #[.int .i64 0, .string ⟨#[]⟩, .int .i64 0, .slice none 0 0] 24) = w0 at *
  obtain ⟨BX, hBX⟩ : ∃ BX, BX = w.heap.size := ⟨_, rfl⟩
  have HBXE := Lib.hid hBX
  rw [← hBX] at XB RB HSZ ⊢
  clear hBX
  have y1 := XB.out.cell (j := 0) rfl
  have y2 := XB.out.cell (j := 1) rfl
  have y3 := XB.out.cell (j := 2) rfl
  have y4 := XB.out.cell (j := 3) rfl
  go_wp2_with fail
  refine CK.out.mono ?_
  rintro e w2 ⟨rfl, hb2⟩
  have HB2 := Lib.hid (below_newA HY.out hb2)
  have XB2 := Lib.hid (XB.out.below hb2 XB.out.lt)
  have RB2 := Lib.hid (RB.out.below hb2 RB.out.lt)
  clear hb2 y1 y2 y3 y4
  by_cases h0 : E = 0
  · obtain rfl := (HR1.out h0)
    subst h0
    have y1 := XB2.out.cell (j := 0) rfl
    have y2 := XB2.out.cell (j := 1) rfl
    have y3 := XB2.out.cell (j := 2) rfl
    have y4 := XB2.out.cell (j := 3) rfl
    have CT2 := Lib.hid (CT.out w2 HB2.out rfl)
    generalize hyn : (⟨R.name.toArray⟩ : ByteArray) = yn at *
    generalize hyk : R.kind = yk at *
    generalize hynn : R.n = ynn at *
    generalize hyl : R.X.length = yl at *
    have HYE := Lib.hid (show _ ∧ _ ∧ _ ∧ _ from ⟨hyn, hyk, hynn, hyl⟩)
    clear hyn hyk hynn hyl
    go_wp2_with fail
    refine CT2.out.mono ?_
    rintro e w3 ⟨A3, c3, rfl, hat3, hb3⟩
    have HAT3 := Lib.hid hat3
    have HB3 := Lib.hid (below_newA HB2.out hb3)
    have RB3 := Lib.hid (RB2.out.below hb3 RB2.out.lt)
    have HLT := Lib.hid RB2.out.lt
    clear hat3 hb3 y1 y2 y3 y4
    have rf := RB3.out.free
    have r1 := RB3.out.cell (j := 0) rfl
    have r2 := RB3.out.cell (j := 1) rfl
    have r3 := RB3.out.cell (j := 2) rfl
    have r4 := RB3.out.cell (j := 3) rfl
    go_wp2_with fail
    have RZ := Lib.hid (blk_put4 RB3.out (.int .i64 yk) (.string yn) (.int .i64 ynn) (.slice A3 yl c3))
    have BZ := Lib.hid (below_put4A HB3.out (by rw [HBXE.out]; omega : w.heap.size ≤ BX + 1) (.int .i64 yk) (.string yn) (.int .i64 ynn) (.slice A3 yl c3))
    have PZ := Lib.hid ((AskP.mono (ok' := fun j => j ≠ BX + 1) (fun j hj _ => by have h1 := HLT.out; have h2 := HBXE.out; rcases hj with h | h <;> omega) _ _ _ HAT3.out).put4 (b := BX + 1) (fun h => h rfl) (.int .i64 yk) (.string yn) (.int .i64 ynn) (.slice A3 yl c3))
    generalize ((((w3.setCell ⟨BX + 1, 0, none⟩ (.int .i64 yk)).setCell ⟨BX + 1, 1, none⟩ (.string yn)).setCell ⟨BX + 1, 2, none⟩ (.int .i64 ynn)).setCell ⟨BX + 1, 3, none⟩ (.slice A3 yl c3)) = wz at *
    have q1 := RZ.out.cell (j := 0) rfl
    have q2 := RZ.out.cell (j := 1) rfl
    have q3 := RZ.out.cell (j := 2) rfl
    have q4 := RZ.out.cell (j := 3) rfl
    refine bodyPost_ret (v := .tuple #[.agg #[.int .i64 yk, .string yn, .int .i64 ynn, .slice A3 yl c3], .int .i64 ((0 : Nat) : Int)]) (by simp [results, Tryd.results5, go_sem, q1, q2, q3, q4]) rfl ?_
    obtain ⟨g1, g2, g3, g4⟩ := HYE.out
    subst g1 g2 g3 g4
    exact ⟨A3, c3, rfl, AskP.at_ _ _ _ PZ.out, BZ.out⟩
  · have hne : (((E : Nat) : Int) != 0) = true := by simp; omega
    obtain rfl := (HR0.out h0)
    clear h0
    have rf := RB2.out.free
    have r1 := RB2.out.cell (j := 0) rfl
    have r2 := RB2.out.cell (j := 1) rfl
    have r3 := RB2.out.cell (j := 2) rfl
    have r4 := RB2.out.cell (j := 3) rfl
    go_wp2_with fail
    have RZ := Lib.hid (blk_put4 RB2.out (.int .i64 0) (.string ⟨#[]⟩) (.int .i64 0) (.slice none 0 0))
    have BZ := Lib.hid (below_put4A HB2.out (by rw [HBXE.out]; omega : w.heap.size ≤ BX + 1) (.int .i64 0) (.string ⟨#[]⟩) (.int .i64 0) (.slice none 0 0))
    generalize ((((w2.setCell ⟨BX + 1, 0, none⟩ (.int .i64 0)).setCell ⟨BX + 1, 1, none⟩ (.string ⟨#[]⟩)).setCell ⟨BX + 1, 2, none⟩ (.int .i64 0)).setCell ⟨BX + 1, 3, none⟩ (.slice none 0 0)) = wz at *
    have q1 := RZ.out.cell (j := 0) rfl
    have q2 := RZ.out.cell (j := 1) rfl
    have q3 := RZ.out.cell (j := 2) rfl
    have q4 := RZ.out.cell (j := 3) rfl
    refine bodyPost_ret (v := .tuple #[.agg #[.int .i64 0, .string ⟨#[]⟩, .int .i64 0, .slice none 0 0], .int .i64 ((E : Nat) : Int)]) (by simp [results, Tryd.results5, go_sem, q1, q2, q3, q4]) rfl ?_
    exact ⟨none, 0, rfl, AskP.at_ _ _ _ (askP_nil (ok := fun _ => True) _ _ _), BZ.out⟩
end Go.Proofs.YtcodncddaemhlaaDoor
