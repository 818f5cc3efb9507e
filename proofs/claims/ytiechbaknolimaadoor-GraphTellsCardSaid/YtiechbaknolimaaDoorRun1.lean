/- Contracts: slices.Clone at int64; whether some time is not below now; sameMade at two that are one. Lengths below 2^43. -/
import Derived.Test.YtiechbaknolimaaDoorCfI
import Derived.Test.YtiechbaknolimaaDoorEqInt
import Derived.Test.YtiechbaknolimaaDoorOwn2
import Derived.Test.YtiechbaknolimaaDoorSt1
import Derived.Lib.SliceRun
import Derived.Test.YtiechbaknolimaaDoorBuildPlain
import Derived.OneCell
namespace Go.Proofs.YtiechbaknolimaaDoor
open Go.RowKit

theorem elI64 : ElT Tryd.prog 46 2 (.int .i64 0) 8 := ElT.mk' Tryd.underlying46 (by kernel_rfl) rfl
theorem own_empty (w : World) (e : TypeId) : (w.alloc (.cells #[] e)).ownsRow w.heap.size e 1 (.slice (some ⟨w.heap.size, 0, none⟩) 0 0) 0 [] := World.ownsRow_made w #[] 0 (Nat.le_refl _) (Nat.zero_le _) rfl
def OwnP (E : TypeId) (n : Nat) (xs : List Value) (w : World) (e : Ending) (w' : World) : Prop :=
  ∃ A c, e = .returned (.slice A n c) ∧ w'.ownsRow w.heap.size E 1 (.slice A n c) n xs ∧ Below w.heap.size w w'
theorem iv_one (l : List Int) : ∀ u ∈ l.map (Value.int .i64), u.oneCell' = true := by
  intro u hu
  obtain ⟨x, _, rfl⟩ := List.mem_map.1 hu
  rfl
set_option maxHeartbeats 1000000 in
theorem iClone_any {A : Option Addr} {n c : Nat} (l : List Int) (w : World) (hr : Rd w A (l.map (.int .i64))) (hn : l.length = n) (hb : n * 8 ≤ 140737488355328) :
    Calls Tryd.prog 56 #[.slice A n c] w (OwnP 2 n (l.map (.int .i64)) w) := by
  have HR := Lib.hid hr
  have HN := Lib.hid hn
  clear hr hn
  cases A with
  | none =>
    have hl : l = [] := List.map_eq_nil_iff.1 (rd_none HR.out)
    have h0 : n = 0 := by rw [← HN.out, hl]; rfl
    subst h0
    subst hl
    have hnil := fun w => Lib.run_eql_slice_nil (P := Tryd.prog) w 46 2 none 0 c 0 0 Tryd.underlying46
    go_enter Tryd.func56, Tryd.ntmps56
    go_wp2_with fail
    go_ret
    exact ⟨none, _, rfl, World.ownsRow_nil _ _ _ _, Below.refl _ _⟩
  | some a =>
    have hnil := fun w => Lib.run_eql_slice_nil (P := Tryd.prog) w 46 2 (some a) n c 0 0 Tryd.underlying46
    go_enter Tryd.func56, Tryd.ntmps56
    go_wp2_with (at_builtin; refine wpList_cat elI64 (w.alloc (.cells #[] 2)) _ _ w.heap.size _ 0 0 [] (some a) n c (l.map (.int .i64)) (own_empty w _) (HR.out.alloc _) (by rw [List.length_map]; exact HN.out) (iv_one l) (by simp) (by omega) (by omega) rfl rfl rfl rfl ?_; intro A' c' w5 hown5 hb5)
    rw [Nat.zero_add, List.nil_append] at hown5
    have HO := Lib.hid hown5
    have HB := Lib.hid ((below_new (Below.refl w.heap.size w) (.cells #[] 2)).trans hb5)
    clear hown5 hb5
    go_wp2_with fail
    go_ret
    exact ⟨A', c', rfl, HO.out, HB.out⟩
/-- Is t not below now? -/
def late (now t : Int) : Bool := decide (now ≤ t)
theorem now_any (B : Nat) (now t : Int) (w : World) (hc : w.cell? ⟨B, 0, none⟩ = some (.int .i64 now)) :
    Calls Tryd.prog 54 (#[.int .i64 t] ++ #[.pointer (some ⟨B, 0, none⟩)]) w fun e w' => e = .returned (.bool (late now t)) ∧ Below w.heap.size w w' := by
  have HB0 := Lib.hid (Below.refl w.heap.size w)
  show Calls Tryd.prog 54 #[.int .i64 t, .pointer (some ⟨B, 0, none⟩)] w _
  go_enter Tryd.func54, Tryd.ntmps54
  go_wp2_with fail
  go_ret
  exact ⟨ret_bool (by unfold late; rfl), HB0.out⟩
theorem lates_any {A : Option Addr} {n c : Nat} (B : Nat) (now : Int) (T : List Int) (w : World) (hx : Rd w A (T.map (.int .i64))) (hn : T.length = n) (hb : n ≤ 9223372036854775807) (hc : w.cell? ⟨B, 0, none⟩ = some (.int .i64 now)) :
    Calls Tryd.prog 53 #[.slice A n c, .func (.func 54) #[] #[.pointer (some ⟨B, 0, none⟩)]] w fun e w' => e = .returned (.bool (T.any (late now))) ∧ Below w.heap.size w w' :=
  cf_I64 (c := c) (.int .i64) (late now) 54 #[.pointer (some ⟨B, 0, none⟩)] (fun args w => enters_of Tryd.func54 (by kernel_rfl) rfl args w) T w hx hn hb (fun t _ W hW => now_any B now t W (cell_keep hc hW))
end Go.Proofs.YtiechbaknolimaaDoor
/- Worlds while a build runs: blocks that are known whole, and what a round of the loop leaves. No condition. -/
namespace Go.Proofs.YtiechbaknolimaaDoor
open Go.RowKit

/-- A block that is known whole, none of it frozen. -/
def Blk (w : World) (b : Nat) (t : TypeId) (vs : List Value) : Prop := w.heap[b]? = some (.cells vs.toArray t (0, 0))
section
variable {w w' : World} {b : Nat} {t : TypeId} {vs : List Value}
theorem Blk.cell (h : Blk w b t vs) {j : Nat} {v : Value} (hj : vs[j]? = some v) : w.cell? ⟨b, j, none⟩ = some v := by
  unfold Blk at h
  simp [World.cell?, h, hj]
theorem Blk.free (h : Blk w b t vs) (j : Nat) : w.frozen? ⟨b, j, none⟩ = false := by
  unfold Blk at h
  simp [World.frozen?, h]
theorem Blk.lt (h : Blk w b t vs) : b < w.heap.size := lt_of_block h
theorem Blk.other (h : Blk w b t vs) {a : Addr} (hne : b ≠ a.block) (u : Value) : Blk (w.setCell a u) b t vs := by
  unfold Blk
  rw [Below.heap_setCell _ _ _ _ hne]
  exact h
theorem Blk.same (h : Blk w b t vs) (j : Nat) (u : Value) : Blk (w.setCell ⟨b, j, none⟩ u) b t (vs.set j u) := by
  unfold Blk
  rw [heap_setCell_same w b j vs.toArray t u h]
  simp
theorem Blk.below {B : Nat} (h : Blk w b t vs) (hb : Below B w w') (hB : b < B) : Blk w' b t vs := by
  unfold Blk
  rw [hb.block b hB]
  exact h
theorem Blk.new (w : World) (cs : Array Value) (t : TypeId) : Blk (w.alloc (.cells cs t)) w.heap.size t cs.toList := by
  unfold Blk
  rw [heap_alloc_new, Array.toArray_toList]
end
theorem own_lt {w w' : World} {B base : Nat} {e : TypeId} {size : Nat} {v : Value} {n : Nat} {xs : List Value} (h : w.ownsRow base e size v n xs) (hb : Below B w w') (hlt : ∀ g, v.ownBlock = some g → g < B) : w'.ownsRow base e size v n xs := by
  refine ⟨h.1, ?_⟩
  rcases h.2 with h' | ⟨g, cap, cur, h1, h2, h3, h4⟩
  · exact .inl h'
  · subst h1
    exact .inr ⟨g, cap, cur, rfl, h2, by rw [hb.block g (hlt g rfl)]; exact h3, h4⟩
theorem own_eq_slice {w : World} {base : Nat} {e : TypeId} {n c : Nat} {A : Option Addr} {xs : List Value} (h : w.ownsRow base e 1 (.slice A n c) n xs) (hn : 0 < n) : ∃ g, A = some ⟨g, 0, none⟩ := by
  rcases h.2 with ⟨_, h0⟩ | ⟨g, cap, cur, hv, _⟩
  · omega
  · injection hv with hA _ _
    exact ⟨g, hA⟩
/-- What stands still while a build runs. -/
structure RunFix (lo Bn Bm Br BR n cT m cO : Nat) (AT AO : Option Addr) : Prop where
  n1 : Bn < lo
  r1 : Br < lo
  nr : Bn ≠ Br
  mlo : lo ≤ Bm
  mb : Bm < BR
  at_ : ∀ g, (Value.slice AT n cT).ownBlock = some g → lo ≤ g ∧ g < BR ∧ g ≠ Bm
  ord : ∀ g, (Value.slice AO m cO).ownBlock = some g → lo ≤ g ∧ g < BR ∧ g ≠ Bm
  ne : ∀ g, (Value.slice AT n cT).ownBlock = some g → (Value.slice AO m cO).ownBlock ≠ some g
/-- What holds between two numbers. -/
structure RunRel (nb : Bool) (lo Bn Bm Br BR n cT m cO : Nat) (AT AO : Option Addr) (L : List Nat) (x : Int) (k : Nat) (AR : Option Addr) (cR : Nat) (st : MadeT) (w : World) : Prop where
  now : nb = true → Blk w Bn 2 [.int .i64 x]
  made : Blk w Bm 58 [.slice AR k cR, .slice AT n cT]
  res : Blk w Br 58 [.slice none 0 0, .slice none 0 0]
  row : w.ownsRow BR 3 1 (.slice AR k cR) k (st.1.map nv)
  at_ : w.ownsRow lo 2 1 (.slice AT n cT) n (st.2.map (.int .i64))
  ord : w.ownsRow lo 3 1 (.slice AO m cO) m (L.map nv)
section
variable {nb : Bool} {lo Bn Bm Br BR n cT m cO : Nat} {AT AO : Option Addr} {L : List Nat}
/-- One element more, the box of the made build and the time written. -/
theorem runRel_step {x : Int} {k : Nat} {AR : Option Addr} {cR : Nat} {st : MadeT} {w w8 : World} (F : RunFix lo Bn Bm Br BR n cT m cO AT AO) (h : RunRel nb lo Bn Bm Br BR n cT m cO AT AO L x k AR cR st w)
    (hb : Below BR w w8) {AR' : Option Addr} {cR' z : Nat} (hown : w8.ownsRow BR 3 1 (.slice AR' (k + 1) cR') (k + 1) (st.1.map nv ++ [nv z])) {gT : Nat} (hAT : AT = some ⟨gT, 0, none⟩) (y x' : Int) :
    RunRel nb lo Bn Bm Br BR n cT m cO AT AO L x' (k + 1) AR' cR' (st.1 ++ [z], st.2.set z y) (((w8.setCell ⟨Bm, 0, none⟩ (.slice AR' (k + 1) cR')).setCell ⟨gT, z, none⟩ (.int .i64 y)).setCell ⟨Bn, 0, none⟩ (.int .i64 x')) := by
  have := F.n1; have := F.r1; have := F.nr; have := F.mlo; have := F.mb
  subst hAT
  have hg := F.at_ gT rfl
  have hgo := F.ne gT rfl
  have ho : ∀ q, q < lo ∨ q = Bm → (Value.slice AO m cO).ownBlock ≠ some q := fun q hq he => by have := F.ord q he; omega
  refine ⟨fun hn => ?_, ?_, ?_, ?_, ?_, ?_⟩
  · exact ((((h.now hn).below hb (by omega)).other (by simp; omega) _).other (by simp; omega) _).same 0 _
  · exact (((h.made.below hb (by omega)).same 0 _).other (by simp; omega) _).other (by simp; omega) _
  · exact (((h.res.below hb (by omega)).other (by simp; omega) _).other (by simp; omega) _).other (by simp; omega) _
  · rw [List.map_append]
    exact ownsRow_setCell_below (ownsRow_setCell_below (ownsRow_setCell_below hown (by simp; omega) _) (by simp; omega) _) (by simp; omega) _
  · have h1 := own_lt h.at_ hb (fun g hg' => by have := F.at_ g hg'; omega)
    have h2 := ownsRow_setCell_other h1 (a := ⟨Bm, 0, none⟩) (by simp [Value.ownBlock]; omega) (.slice AR' (k + 1) cR')
    have h3 := (h2.stored z (.int .i64 y)).1
    have h4 := ownsRow_setCell_other h3 (a := ⟨Bn, 0, none⟩) (by simp [Value.ownBlock]; omega) (.int .i64 x')
    rw [List.map_set]
    exact h4
  · have h1 := own_lt h.ord hb (fun g hg' => by have := F.ord g hg'; omega)
    exact ownsRow_setCell_other (ownsRow_setCell_other (ownsRow_setCell_other h1 (ho _ (.inr rfl)) _) (a := ⟨gT, z, none⟩) hgo _) (ho _ (.inl (by assumption))) _
/-- The same in the reference's order: the time first, one element more behind. -/
theorem runRel_step2 {x : Int} {k : Nat} {AR : Option Addr} {cR : Nat} {st : MadeT} {w w8 : World} (F : RunFix lo Bn Bm Br BR n cT m cO AT AO) (h : RunRel nb lo Bn Bm Br BR n cT m cO AT AO L x k AR cR st w)
    {gT : Nat} (hAT : AT = some ⟨gT, 0, none⟩) (y : Int) {z : Nat} (hb : Below BR (w.setCell ⟨gT, z, none⟩ (.int .i64 y)) w8) {AR' : Option Addr} {cR' : Nat} (hown : w8.ownsRow BR 3 1 (.slice AR' (k + 1) cR') (k + 1) (st.1.map nv ++ [nv z])) :
    RunRel nb lo Bn Bm Br BR n cT m cO AT AO L x (k + 1) AR' cR' (st.1 ++ [z], st.2.set z y) (w8.setCell ⟨Bm, 0, none⟩ (.slice AR' (k + 1) cR')) := by
  have := F.n1; have := F.r1; have := F.nr; have := F.mlo; have := F.mb
  subst hAT
  have hg := F.at_ gT rfl
  have hgo := F.ne gT rfl
  have ho : ∀ q, q < lo ∨ q = Bm → (Value.slice AO m cO).ownBlock ≠ some q := fun q hq he => by have := F.ord q he; omega
  refine ⟨fun hn => ?_, ?_, ?_, ?_, ?_, ?_⟩
  · exact (((h.now hn).other (by simp; omega) _).below hb (by omega)).other (by simp; omega) _
  · exact ((h.made.other (by simp; omega) _).below hb (by omega)).same 0 _
  · exact ((h.res.other (by simp; omega) _).below hb (by omega)).other (by simp; omega) _
  · rw [List.map_append]
    exact ownsRow_setCell_below hown (by simp; omega) _
  · have h1 := (h.at_.stored z (.int .i64 y)).1
    have h2 := own_lt h1 hb (fun g hg' => by have := F.at_ g hg'; omega)
    have h3 := ownsRow_setCell_other h2 (a := ⟨Bm, 0, none⟩) (by simp [Value.ownBlock]; omega) (.slice AR' (k + 1) cR')
    rw [List.map_set]
    exact h3
  · have h1 := own_lt (ownsRow_setCell_other h.ord (a := ⟨gT, z, none⟩) hgo (.int .i64 y)) hb (fun g hg' => by have := F.ord g hg'; omega)
    exact ownsRow_setCell_other h1 (ho _ (.inr rfl)) _
end
end Go.Proofs.YtiechbaknolimaaDoor
