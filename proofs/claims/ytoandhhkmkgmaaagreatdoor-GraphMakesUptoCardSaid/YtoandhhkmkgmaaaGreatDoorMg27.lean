/- Contracts that the law's proof leans on, and plain lemmas to them, merged. No condition beyond each contract's own hypotheses. -/
import Derived.Test.YtoandhhkmkgmaaaGreatDoorMg22
import Derived.Test.YtoandhhkmkgmaaaGreatDoorMg6
import Derived.Test.YtoandhhkmkgmaaaGreatDoorMg26
import Derived.WalkSpells
import Derived.WalkLawsBesides
import Derived.BigQuiet
import Derived.Deep.QuietTactic
import Derived.Test.YtoandhhkmkgmaaaGreatDoorMg12
import Derived.Maps.AppendAt
import Derived.OneCell
import Derived.Deep.RegionHeld3
namespace Go.Proofs.YtoandhhkmkgmaaaGreatDoor
open Go.RowKit

def inI (l : List InfT) (p : InfT) : Bool := decide (p ∈ l)
def PlaceI (l : List InfT) (p : InfT) (w : World) (e : Ending) (w' : World) : Prop := Below w.heap.size w w' ∧ ∃ i : Int, e = .returned (.int .i64 i) ∧ ((i = -1 ∧ p ∉ l) ∨ ∃ k : Nat, i = (k : Int) ∧ l[k]? = some p)
set_option maxRecDepth 100000 in
set_option maxHeartbeats 1000000 in
theorem slIndexI_any {A : Option Addr} {n c : Nat} (l : List InfT) (p : InfT) (w : World) (hr : Rd w A (macV l)) (hn : l.length = n) (hb : n ≤ 9223372036854775807) :
 Calls Tryz.prog 152 #[.slice A n c, .agg #[sv p.1, sv p.2]] w (PlaceI l p w) := by
 obtain ⟨pa, pb⟩ := p
 dsimp only
 have HN := Lib.hid hn
 have HEA := Lib.hid (eq_sv pa)
 have HEB := Lib.hid (eq_sv pb)
 show Calls _ _ #[.slice A n c, .agg #[.string ⟨pa.toArray⟩, .string ⟨pb.toArray⟩]] _ _
 generalize (⟨pa.toArray⟩ : ByteArray) = ba at *
 generalize (⟨pb.toArray⟩ : ByteArray) = bb at *
 have HB0 := Lib.hid (below_new (Below.refl w.heap.size w) (.cells #[.string ba, .string bb] 85))
 have HK := Lib.hid (Blk.new w #[.string ba, .string bb] 85)
 have HR : Hid (Rd (w.alloc (.cells #[.string ba, .string bb] 85)) A (macV l)) := Lib.hid (hr.below HB0.out)
 clear hr hn
 go_enter Tryz.func152, Tryz.ntmps152
 go_upto_region 1 with fail
 generalize w.alloc (.cells #[.string ba, .string bb] 85) = w0 at *
 have m0 : w0.cell? ⟨w.heap.size, 0, none⟩ = some (.string ba) := HK.out.cell (j := 0) rfl
 have m1 : w0.cell? ⟨w.heap.size, 1, none⟩ = some (.string bb) := HK.out.cell (j := 1) rfl
 generalize hK0 : w.heap.size = k0 at *
 have HK0 := Lib.hid hK0
 clear hK0
 go_wp2_with fail
 go_loopw [5, 8] (fun _ i wr => ∃ k q : Nat, k ≤ n ∧ i = .int .i64 (k : Int) ∧ wr = w0.drewN q ∧ Hid (∀ (j : Nat) (x : InfT), j < k → l[j]? = some x → x ≠ (pa, pb))) (fun _ i _ => n - (intOf i).toNat)
 case atStart => exact ⟨0, 0, by omega, rfl, rfl, Lib.hid (fun _ _ hj => absurd hj (Nat.not_lt_zero _))⟩
 case round =>
  obtain ⟨k, q, hk, rfl, rfl, hall⟩ := hrel
  by_cases hlt : k < n
  ·obtain ⟨x, hx⟩ : ∃ x, l[k]? = some x := ⟨_, List.getElem?_eq_getElem (by rw [HN.out]; exact hlt)⟩
   obtain ⟨b1, o1, rfl, e1, e2⟩ := HR.out.macs hx
   have HX := Lib.hid hx
   obtain ⟨xa, xb⟩ := x
   have e1' : w0.cell? ⟨b1, o1 + k * 2, none⟩ = some (.string ⟨xa.toArray⟩) := e1
   have e2' : w0.cell? ⟨b1, o1 + k * 2 + 1, none⟩ = some (.string ⟨xb.toArray⟩) := e2
   have h1 := HEA.out xa
   have h2 := HEB.out xb
   clear hx e1 e2
   generalize (⟨xa.toArray⟩ : ByteArray) = bx at e1' h1
   generalize (⟨xb.toArray⟩ : ByteArray) = by' at e2' h2
   have j0 : (0 : Int) ≤ (k : Int) := by omega
   have j1 : (k : Int) < (n : Int) := by omega
   by_cases he : pa = xa
   ·by_cases he2 : pb = xb
    ·have g1 : (ba.toList == bx.toList) = true := by rw [h1]; simp [he]
     have g2 : (bb.toList == by'.toList) = true := by rw [h2]; simp [he2]
     have HS : Hid ((xa, xb) = (pa, pb)) := Lib.hid (by rw [he, he2])
     clear he he2 h1 h2
     go_wp2_with fail
     go_quiet (fail)
     go_wp2_with fail
     go_ret
     exact ⟨by rw [HK0.out]; exact below_drewN (below_drewN HB0.out _) _, (k : Int), rfl, .inr ⟨k, rfl, by rw [HX.out, HS.out]⟩⟩
    ·have g1 : (ba.toList == bx.toList) = true := by rw [h1]; simp [he]
     have g2 : (bb.toList == by'.toList) = false := by rw [h2]; simp [he2]
     have HS : Hid ((xa, xb) ≠ (pa, pb)) := Lib.hid (fun e => he2 (by injection e with _ e; exact e.symm))
     clear he he2 h1 h2
     go_wp2_with fail
     go_quiet (fail)
     go_wp2_with fail
     go_roundw
     case rel => exact ⟨k + 1, _, by omega, by go_num, rfl, Lib.hid (fun j y hj hy => by
      rcases Nat.lt_or_ge j k with h | h
      ·exact hall.out j y h hy
      ·obtain rfl : j = k := by omega
       rw [HX.out] at hy
       injection hy with hy
       rw [← hy]; exact HS.out)⟩
     case measure => simp [intOf]; omega
   ·have g1 : (ba.toList == bx.toList) = false := by rw [h1]; simp [he]
    have HS : Hid ((xa, xb) ≠ (pa, pb)) := Lib.hid (fun e => he (by injection e with e _; exact e.symm))
    clear he h1 h2
    go_wp2_with fail
    go_quiet (fail)
    go_wp2_with fail
    go_roundw
    case rel => exact ⟨k + 1, _, by omega, by go_num, rfl, Lib.hid (fun j y hj hy => by
     rcases Nat.lt_or_ge j k with h | h
     ·exact hall.out j y h hy
     ·obtain rfl : j = k := by omega
      rw [HX.out] at hy
      injection hy with hy
      rw [← hy]; exact HS.out)⟩
    case measure => simp [intOf]; omega
  ·go_wp2_with fail
   go_ret
   exact ⟨by rw [HK0.out]; exact below_drewN HB0.out _, -1, rfl, .inl ⟨rfl, fun hm => by
    obtain ⟨j, hj⟩ := List.mem_iff_getElem?.1 hm
    exact hall.out j _ (by have := (List.getElem?_eq_some_iff.1 hj).1; have := HN.out; omega) hj rfl⟩⟩
set_option maxRecDepth 100000 in
set_option maxHeartbeats 1000000 in
theorem slContainsI_any {A : Option Addr} {n c : Nat} (l : List InfT) (p : InfT) (w : World) (hr : Rd w A (macV l)) (hn : l.length = n) (hb : n ≤ 9223372036854775807) :
 Calls Tryz.prog 86 #[.slice A n c, .agg #[sv p.1, sv p.2]] w fun e w' => e = .returned (.bool (inI l p)) ∧ Below w.heap.size w w' := by
 obtain ⟨ba, hba⟩ : ∃ ba, sv p.1 = .string ba := ⟨_, rfl⟩
 obtain ⟨bb, hbb⟩ : ∃ bb, sv p.2 = .string bb := ⟨_, rfl⟩
 have HB0 := Lib.hid (below_new (Below.refl w.heap.size w) (.cells #[.string ba, .string bb] 85))
 have HI := Lib.hid (slIndexI_any (c := c) l p (w.alloc (.cells #[.string ba, .string bb] 85)) (hr.below HB0.out) hn hb)
 have m0 := (Blk.new w #[.string ba, .string bb] 85).cell (j := 0) rfl
 have m1 := (Blk.new w #[.string ba, .string bb] 85).cell (j := 1) rfl
 rw [hba, hbb] at HI
 rw [hba, hbb]
 clear hr hn hb hba hbb
 go_enter Tryz.func86, Tryz.ntmps86
 go_upto_region 1 with fail
 generalize w.alloc (.cells #[.string ba, .string bb] 85) = w0 at *
 go_wp2_with fail
 refine HI.out.mono ?_
 rintro e w1 ⟨hb1, i, rfl, hi⟩
 have HB1 := Lib.hid (below_then HB0.out hb1)
 clear hb1
 rcases hi with ⟨rfl, hno⟩ | ⟨k, rfl, hk⟩
 ·have HE : Hid (false = inI l p) := Lib.hid (by unfold inI; simp [hno])
  clear hno
  go_wp2_with fail
  go_ret
  exact ⟨ret_bool HE.out, HB1.out⟩
 ·have HE : Hid (true = inI l p) := Lib.hid (by unfold inI; simp [List.mem_of_getElem? hk])
  clear hk
  have k0 : (0 : Int) ≤ (k : Int) := by omega
  go_wp2_with fail
  go_ret
  exact ⟨ret_bool HE.out, HB1.out⟩
end Go.Proofs.YtoandhhkmkgmaaaGreatDoor
namespace Go.Proofs.YtoandhhkmkgmaaaGreatDoor
open Go.RowKit

structure FileT where
 mac : List MacT
 pho : List (List UInt8)
 inf : List InfT
 rul : List RuleT
def emptyF : FileT := ⟨[], [], [], []⟩
def addO (p : List (List UInt8)) (n : List UInt8) : List (List UInt8) := if n ∈ p then p else p ++ [n]
def addAllO (p : List (List UInt8)) (l : List (List UInt8)) : List (List UInt8) := l.foldl addO p
theorem addAllO_snoc (p l : List (List UInt8)) (x : List UInt8) : addAllO p (l ++ [x]) = addO (addAllO p l) x := by unfold addAllO; rw [List.foldl_append]; rfl
theorem addO_len (p : List (List UInt8)) (n : List UInt8) : (addO p n).length ≤ p.length + 1 := by
 unfold addO
 split
 ·omega
 ·simp
theorem addAllO_len (l : List (List UInt8)) : ∀ p, (addAllO p l).length ≤ p.length + l.length := by
 induction l with
 | nil => intro p; exact Nat.le_refl _
 | cons x l ih =>
   intro p
   have h1 := ih (addO p x)
   have h2 := addO_len p x
   show (addAllO (addO p x) l).length ≤ _
   simp only [List.length_cons]
   omega
def phonyW : List UInt8 := [46, 80, 72, 79, 78, 89]
def addP (f : FileT) (r : RuleT) : Nat × FileT :=
 if phonyW ∈ r.1 then
  (if 1 < r.1.length then (3, f) else (if 20 < (addAllO f.pho r.2).length then 2 else 0, { f with pho := addAllO f.pho r.2 }))
 else match pairP (r.1.headD []) with
  | some p => if r.1.length = 1 ∧ r.2.length = 0 then (0, if p ∈ f.inf then f else { f with inf := f.inf ++ [p] }) else (if 100 < f.rul.length + 1 then 2 else 0, { f with rul := f.rul ++ [r] })
  | none => (if 100 < f.rul.length + 1 then 2 else 0, { f with rul := f.rul ++ [r] })

def rowsF (f : FileT) (L : List RSlot) (v0 v1 v2 v3 : Value) : List RowF :=
 [⟨71, 2, v0, f.mac.length, macV f.mac⟩, ⟨9, 1, v1, f.pho.length, f.pho.map sv⟩, ⟨85, 2, v2, f.inf.length, macV f.inf⟩, ⟨78, 2, v3, L.length, rsV L⟩]
theorem RowsAt.with {lo B : Nat} {T : TypeId} {rows : List RowF} {L : List RSlot} {W : World} (h : RowsAt lo B T rows L W) {x : RSlot} (hx : RsIn x W) (hf : ∀ r ∈ rows, farS x r.v.ownBlock) (hB : farS x (some B)) : RowsAt lo B T rows (L ++ [x]) W :=
 ⟨h.blo, h.box, h.own, h.apart, fun y hy => by rcases List.mem_append.1 hy with hy | hy; exact h.each y hy; rw [List.mem_singleton.1 hy]; exact hx,
  fun y hy => by rcases List.mem_append.1 hy with hy | hy; exact h.far y hy; rw [List.mem_singleton.1 hy]; exact hf,
  fun y hy => by rcases List.mem_append.1 hy with hy | hy; exact h.farB y hy; rw [List.mem_singleton.1 hy]; exact hB, h.top⟩
theorem RowsAt.sub {lo B : Nat} {T : TypeId} {rows : List RowF} {L M : List RSlot} {W : World} (h : RowsAt lo B T rows L W) (hs : ∀ x ∈ M, x ∈ L) : RowsAt lo B T rows M W :=
 ⟨h.blo, h.box, h.own, h.apart, fun y hy => h.each y (hs y hy), fun y hy => h.far y (hs y hy), fun y hy => h.farB y (hs y hy), h.top⟩
theorem slice_ofF {w : World} {B n z : Nat} {e : TypeId} {v : Value} {xs : List Value} (h : w.ownsRow B e z v n xs) : ∃ A c, v = .slice A n c := by
 obtain ⟨_, ⟨h, hn⟩ | ⟨g, cap, _, h, _⟩⟩ := h
 ·exact ⟨none, 0, by rw [h, hn]⟩
 ·exact ⟨_, cap, h⟩
structure ElF (t e : TypeId) (z bytes : Nat) : Prop where
 under : Tryz.prog.underlying t = some (.slice e)
 info : ∃ i v, Tryz.prog.info? e = some i ∧ i.zero = some v ∧ i.size = z ∧ i.bytes = bytes ∧ v.cells.size = z
 pos : 0 < z
theorem ElF.mk' {t e : TypeId} {z bytes : Nat} (ht : Tryz.prog.underlying t = some (.slice e)) {v : Value} (h : (Tryz.prog.info? e).map (fun i => (i.zero, i.size, i.bytes)) = some (some v, z, bytes)) (hz : v.cells.size = z) (hp : 0 < z) : ElF t e z bytes := by
 cases hi : Tryz.prog.info? e with
 | none => rw [hi] at h; cases h
 | some i =>
   rw [hi] at h
   simp only [Option.map_some, Option.some.injEq, Prod.mk.injEq] at h
   exact ⟨ht, ⟨i, v, hi, h.1, h.2.1, h.2.2, hz⟩, hp⟩
theorem elMacF : ElF 23 71 2 32 := ElF.mk' (by kernel_rfl) (v := .agg #[.string ⟨#[]⟩, .string ⟨#[]⟩]) (by kernel_rfl) (by decide) (by decide)
theorem elInfF : ElF 24 85 2 32 := ElF.mk' (by kernel_rfl) (v := .agg #[.string ⟨#[]⟩, .string ⟨#[]⟩]) (by kernel_rfl) (by decide) (by decide)
theorem elRulF : ElF 25 78 2 48 := ElF.mk' (by kernel_rfl) (v := .agg #[.slice none 0 0, .slice none 0 0]) (by kernel_rfl) (by decide) (by decide)
theorem elStrF : ElF 22 9 1 16 := ElF.mk' (by kernel_rfl) (v := .string ⟨#[]⟩) (by kernel_rfl) (by decide) (by decide)
theorem wpList_pushF {ops : Array Oper} {rest : List Oper} {o : Oper} {a : Act} {Q : Exit → Act → World → Prop} (W : World) (s x : Operand) {lo B : Nat} {T : TypeId} {rows : List RowF} {L : List RSlot} (h : RowsAt lo B T rows L W) (k : Nat) {t e : TypeId} {z bytes : Nat} (E : ElF t e z bytes)
 (A : Option Addr) (n c : Nat) (xs : List Value) (hk : rows[k]? = some ⟨e, z, .slice A n c, n, xs⟩) (us : Array Value) (hul : us.size = z) (hu : ∀ u ∈ us.toList, u.oneCell' = true) (hn : (n + 1) * bytes ≤ 140737488355328) (hn' : n + 1 ≤ 140737488355328)
 {N : List RSlot} (hN : ∀ x ∈ N, RsIn x W ∧ (∀ r ∈ rows, farS x r.v.ownBlock) ∧ farS x (some B))
 (hgd : o.guard = none) (ho : o.op = .call { callee := .builtin .append, args := #[s, x], argTypes := #[t, t] })
 (hs : a.eval s = .slice A n c) (hx : a.eval x = .slice (some ⟨W.heap.size, 0, none⟩) 1 1)
 (hc : ∀ g c' w', Blk w' B T (rows.map (·.v)) → RowsAt lo B T (rows.set k ⟨e, z, .slice (some ⟨g, 0, none⟩) (n + 1) c', n + 1, xs ++ us.toList⟩) (L ++ N) (w'.setCell ⟨B, k, none⟩ (.slice (some ⟨g, 0, none⟩) (n + 1) c')) → ButLo lo B W (w'.setCell ⟨B, k, none⟩ (.slice (some ⟨g, 0, none⟩) (n + 1) c')) →
   wpList Tryz.prog ops Q rest (a.put o.dst (.slice (some ⟨g, 0, none⟩) (n + 1) c')) w') :
 wpList Tryz.prog ops Q (o :: rest) a (W.alloc (.cells us e)) := by
 obtain ⟨ht, ⟨i, v, hi, hz, h1, hb, hzs⟩, hp⟩ := E
 have hr := h.own _ (List.mem_of_getElem? hk)
 dsimp only at hr
 have htop := h.top
 have hB' : lo ≤ (W.alloc (.cells us e)).heap.size := by simp; omega
 refine wpList_append_own_at _ hgd s x t ho lo e i v z bytes ht hi hz h1 hb hzs hp (.slice A n c) n xs hs (hr.alloc _) ⟨W.heap.size, 0, none⟩ 1 1 us.toList hx (by simp [hul]) ?_ hu (by unfold maxLen; omega) hn hB' ?_
 ·intro j y hj
  rw [Addr.add_lit, World.cell?_alloc_at _ _ _ _ rfl, Nat.zero_add]
  simpa using hj
 ·intro v' w' hown' hg hnil hor
  have hne : v' ≠ .slice none 0 0 := fun e => by have := (hnil.1 e).2; omega
  rcases hown'.2 with ⟨h', _⟩ | ⟨g, cap, cur, h', _⟩
  ·exact absurd h' hne
  ·subst h'
   have e1 : (W.alloc (.cells us e)).heap.size = W.heap.size + 1 := by simp
   rw [e1] at hor
   refine hc g cap w' ?_ ?_ ?_
   ·unfold Blk
    have hBr : some B ≠ (Value.slice A n c).ownBlock := fun e => by have := own_lo hr B e.symm; have := h.blo; omega
    rw [hg.block B (by simp; have := h.box.lt; omega) hBr, Below.heap_alloc _ _ _ h.box.lt]
    exact h.box
   ·exact h.grow (r' := ⟨e, z, .slice (some ⟨g, 0, none⟩) (n + 1) cap, n + 1, xs ++ us.toList⟩) hk hg hown' hor hN
   ·exact (((ButLo.refl lo B W).below (below_new (Below.refl W.heap.size W) (.cells us e)) htop).grown hg (own_lo hr) hB').set _
end Go.Proofs.YtoandhhkmkgmaaaGreatDoor
namespace Go.Proofs.YtoandhhkmkgmaaaGreatDoor
open Go.RowKit

def AddPost (lo B : Nat) (f : FileT) (L : List RSlot) (x : RSlot) (W : World) (e : Ending) (W' : World) : Prop :=
 ∃ (f' : FileT) (L' : List RSlot) (v0 v1 v2 v3 : Value), e = .returned (.int .i64 (((addP f x.2.2).1 : Nat) : Int)) ∧ f' = (addP f x.2.2).2 ∧ rulesOf L' = f'.rul ∧ RowsAt lo B 27 (rowsF f' L' v0 v1 v2 v3) L' W' ∧ ButLo lo B W W' ∧ ∀ y ∈ L', y ∈ L ∨ y = x
theorem addP_one {f : FileT} {r : RuleT} (h : phonyW ∈ r.1) (h2 : 1 < r.1.length) : addP f r = (3, f) := by unfold addP; rw [if_pos h, if_pos h2]
theorem addP_ph {f : FileT} {r : RuleT} (h : phonyW ∈ r.1) (h2 : ¬ 1 < r.1.length) : addP f r = (if 20 < (addAllO f.pho r.2).length then 2 else 0, { f with pho := addAllO f.pho r.2 }) := by unfold addP; rw [if_pos h, if_neg h2]
theorem addO_in {p : List (List UInt8)} {n : List UInt8} (h : n ∈ p) : addO p n = p := if_pos h
theorem addO_out {p : List (List UInt8)} {n : List UInt8} (h : n ∉ p) : addO p n = p ++ [n] := if_neg h
theorem addAllO_take {p l : List (List UInt8)} {k : Nat} {x : List UInt8} (h : l[k]? = some x) : addAllO p (l.take (k + 1)) = addO (addAllO p (l.take k)) x := by
 rw [List.take_add_one, h]
 exact addAllO_snoc _ _ _
section
variable {lo B : Nat} {f : FileT} {L : List RSlot} {v0 v1 v2 v3 : Value} {W : World} (h : RowsAt lo B 27 (rowsF f L v0 v1 v2 v3) L W) (hL : rulesOf L = f.rul)
 {x : RSlot} (hx : RsIn x W) (hf : ∀ r ∈ rowsF f L v0 v1 v2 v3, farS x r.v.ownBlock) (hfB : farS x (some B))
include h hL hx hf hfB
set_option maxRecDepth 100000 in
set_option maxHeartbeats 4000000 in
theorem fAdd_ph (hp20 : f.pho.length ≤ 20) (hns : x.2.2.2.length ≤ 1048576) (hph : phonyW ∈ x.2.2.1) : Calls Tryz.prog 38 #[.pointer (some ⟨B, 0, none⟩), .agg #[rsT x, rsN x]] W (AddPost lo B f L x W) := by
 have HB0 := Lib.hid (below_new (Below.refl W.heap.size W) (.cells #[rsT x, rsN x] 78))
 have HR0 := Lib.hid ((h.with hx hf hfB).below HB0.out)
 have HK0 := Lib.hid (Blk.new W #[rsT x, rsN x] 78)
 have HBW0 := Lib.hid ((ButLo.refl lo B W).below HB0.out h.top)
 have HL := Lib.hid hL
 have HX0 := Lib.hid (HR0.out.each x (by simp))
 have HN20 := Lib.hid hp20
 have HNS := Lib.hid hns
 have HPH := Lib.hid hph
 have CT := Lib.hid (slContains_any (c := x.1.2) x.2.2.1 phonyW _ HX0.out.t rfl HX0.out.tb)
 have htr : inL x.2.2.1 phonyW = true := by unfold inL; exact decide_eq_true hph
 rw [htr, show (⟨phonyW.toArray⟩ : ByteArray) = ⟨#[46, 80, 72, 79, 78, 89]⟩ from rfl] at CT
 clear h hL hx hf hfB hp20 hns hph htr
 obtain ⟨⟨X1, xc1⟩, ⟨X2, xc2⟩, ts, ns⟩ := x
 simp only [rsT, rsN] at *
 obtain ⟨tl, htl⟩ : ∃ tl, ts.length = tl := ⟨_, rfl⟩
 obtain ⟨nl, hnl⟩ : ∃ nl, ns.length = nl := ⟨_, rfl⟩
 have HTL := Lib.hid htl
 have HNL := Lib.hid hnl
 have hnb : nl ≤ 1048576 := by rw [← hnl]; exact HNS.out
 simp only [htl, hnl] at HK0 CT HR0 HBW0 HX0 HB0 ⊢
 generalize hW0 : W.alloc (.cells #[.slice X1 tl xc1, .slice X2 nl xc2] 78) = W0 at *
 have HW0 := Lib.hid hW0
 have y0 : W0.cell? ⟨W.heap.size, 0, none⟩ = some (.slice X1 tl xc1) := HK0.out.cell (j := 0) rfl
 have y1 : W0.cell? ⟨W.heap.size, 1, none⟩ = some (.slice X2 nl xc2) := HK0.out.cell (j := 1) rfl
 clear hW0 htl hnl
 go_enter Tryz.func38, Tryz.ntmps38
 go_upto_region 1 with fail
 rw [HW0.out]
 generalize W.heap.size = k0 at *
 go_wp2_with fail
 refine CT.out.mono ?_
 rintro e w1 ⟨rfl, rfl⟩
 by_cases h1 : 1 < tl
 ·have q1 : decide ((1 : Int) < (tl : Int)) = true := by simp; omega
  have HE := Lib.hid (addP_one (f := f) (r := (ts, ns)) HPH.out (by have := HTL.out; show 1 < ts.length; omega))
  clear h1
  go_wp2_with fail
  go_ret
  exact ⟨f, L, v0, v1, v2, v3, by rw [HE.out]; rfl, by rw [HE.out], HL.out, HR0.out.sub (fun y hy => List.mem_append_left _ hy), HBW0.out, fun y hy => .inl hy⟩
 ·have q1 : decide ((1 : Int) < (tl : Int)) = false := by simp; omega
  have HE := Lib.hid (addP_ph (f := f) (r := (ts, ns)) HPH.out (by have := HTL.out; show ¬ 1 < ts.length; omega))
  clear h1
  go_wp2_with fail
  go_loopw [6, 19] (fun _ i wr => ∃ (j : Nat) (u1 : Value), j ≤ nl ∧ i = .int .i64 (j : Int) ∧ Hid (RowsAt lo B 27 (rowsF { f with pho := addAllO f.pho (ns.take j) } L v0 u1 v2 v3) (L ++ [((X1, xc1), (X2, xc2), ts, ns)]) wr) ∧ Hid (ButLo lo B W wr)) (fun _ i _ => nl - (intOf i).toNat)
  case atStart => exact ⟨0, v1, by omega, rfl, HR0, HBW0⟩
  case round =>
   obtain ⟨j, u1, hj, rfl, HRj, HBj⟩ := hrel
   by_cases hlt : j < nl
   ·obtain ⟨xx, hx⟩ : ∃ xx, ns[j]? = some xx := ⟨_, List.getElem?_eq_getElem (by rw [HNL.out]; exact hlt)⟩
    obtain ⟨b, off, rfl, hc⟩ := Rd.scell (HRj.out.each _ (List.mem_append_right _ (List.mem_singleton_self _))).n hx
    have HTK := Lib.hid (addAllO_take (p := f.pho) hx)
    obtain ⟨A1, c1, hu1⟩ := slice_ofF (HRj.out.own _ (List.mem_cons_of_mem _ (List.mem_cons_self ..)))
    dsimp only at hu1
    subst hu1
    have m1 : wr.cell? ⟨B, 1, none⟩ = some (.slice A1 (addAllO f.pho (ns.take j)).length c1) := HRj.out.box.cell (j := 1) rfl
    have HPL := Lib.hid (addAllO_len (ns.take j) f.pho)
    have HPL2 : Hid ((addAllO f.pho (ns.take j)).length ≤ 1048596) := Lib.hid (by
     have h1 := HPL.out
     have h2 := HN20.out
     have h3 := HNS.out
     simp only [List.length_take] at h1
     omega)
    have CC := Lib.hid (slContains_any (c := c1) (addAllO f.pho (ns.take j)) xx wr (Rd.own2 (HRj.out.own _ (List.mem_cons_of_mem _ (List.mem_cons_self ..)))) rfl (by have := HPL2.out; omega))
    generalize hP : addAllO f.pho (ns.take j) = P at *
    generalize hbx : (⟨xx.toArray⟩ : ByteArray) = bx at *
    have HBX := Lib.hid hbx
    obtain ⟨pl, hpl⟩ : ∃ pl, P.length = pl := ⟨_, rfl⟩
    have HPN := Lib.hid hpl
    have HPP := Lib.hid hP
    rw [hpl] at m1 CC HPL2 HRj
    have j0 : (0 : Int) ≤ (j : Int) := by omega
    have j1 : (j : Int) < (nl : Int) := by omega
    clear hx hbx hP hpl
    by_cases hin : xx ∈ P
    ·have hi : inL P xx = true := decide_eq_true hin
     rw [hi] at CC
     have HO := Lib.hid (addO_in hin)
     clear hi hin
     go_wp2_with fail
     refine CC.out.mono ?_
     rintro e w2 ⟨rfl, rfl⟩
     go_wp2_with fail
     go_roundw
     case rel => exact ⟨j + 1, _, by omega, by go_num, by rw [HTK.out, HO.out]; exact HRj, HBj⟩
     case measure => simp [intOf]; omega
    ·have hi : inL P xx = false := decide_eq_false hin
     rw [hi] at CC
     have HO := Lib.hid (addO_out hin)
     clear hi hin
     go_wp2_with fail
     refine CC.out.mono ?_
     rintro e w2 ⟨rfl, rfl⟩
     have HRK : Hid ((rowsF { f with pho := P } L v0 (.slice A1 pl c1) v2 v3)[1]? = some ⟨9, 1, .slice A1 pl c1, pl, P.map sv⟩) := Lib.hid (by unfold rowsF; simp [HPN.out])
     go_wp2_with (at_builtin; refine wpList_pushF wr _ _ HRj.out 1 elStrF A1 pl c1 (P.map sv) HRK.out #[.string bx] rfl (by simp [Value.oneCell']) (by have := HPL2.out; omega) (by have := HPL2.out; omega) (N := []) (by simp) rfl rfl rfl rfl ?_; intro g c' w3 hb3 hr3 hw3; have n1 := hb3.cell (j := 1) rfl; have n2 := hb3.free 1; have HR3 := Lib.hid hr3; have HW3 := Lib.hid hw3; clear hr3 hw3 hb3)
     go_roundw
     case rel => exact ⟨j + 1, .slice (some ⟨g, 0, none⟩) (pl + 1) c', by omega, by go_num, Lib.hid (by
      rw [HTK.out, HO.out]
      have hh := HR3.out
      rw [List.append_nil] at hh
      have e : (rowsF { f with pho := P } L v0 (.slice A1 pl c1) v2 v3).set 1 ⟨9, 1, .slice (some ⟨g, 0, none⟩) (pl + 1) c', pl + 1, P.map sv ++ [.string bx]⟩ = rowsF { f with pho := P ++ [xx] } L v0 (.slice (some ⟨g, 0, none⟩) (pl + 1) c') v2 v3 := by
       unfold rowsF
       simp [HPN.out, ← HBX.out, sv]
      rw [← e]
      exact hh), Lib.hid (HBj.out.trans HW3.out)⟩
     case measure => simp [intOf]; omega
   ·obtain rfl : j = nl := by omega
    have HTA : Hid (addAllO f.pho ns = addAllO f.pho (ns.take j)) := Lib.hid (by rw [List.take_of_length_le (by have := HNL.out; omega)])
    obtain ⟨A1, c1, hu1⟩ := slice_ofF (HRj.out.own _ (List.mem_cons_of_mem _ (List.mem_cons_self ..)))
    dsimp only at hu1
    subst hu1
    have m1 : wr.cell? ⟨B, 1, none⟩ = some (.slice A1 (addAllO f.pho (ns.take j)).length c1) := HRj.out.box.cell (j := 1) rfl
    generalize addAllO f.pho (ns.take j) = P at *
    by_cases h20 : 20 < P.length
    ·have q1 : decide ((20 : Int) < (P.length : Int)) = true := by simp; omega
     have HE2 : Hid (addP f (ts, ns) = (2, { f with pho := P })) := Lib.hid (by rw [HE.out, HTA.out, if_pos h20])
     clear h20
     go_wp2_with fail
     go_ret
     exact ⟨{ f with pho := P }, L, _, _, _, _, by rw [HE2.out]; rfl, by rw [HE2.out], HL.out, HRj.out.sub (fun y hy => List.mem_append_left _ hy), HBj.out, fun y hy => .inl hy⟩
    ·have q1 : decide ((20 : Int) < (P.length : Int)) = false := by simp; omega
     have HE2 : Hid (addP f (ts, ns) = (0, { f with pho := P })) := Lib.hid (by rw [HE.out, HTA.out, if_neg h20])
     clear h20
     go_wp2_with fail
     go_ret
     exact ⟨{ f with pho := P }, L, _, _, _, _, by rw [HE2.out]; rfl, by rw [HE2.out], HL.out, HRj.out.sub (fun y hy => List.mem_append_left _ hy), HBj.out, fun y hy => .inl hy⟩
end
end Go.Proofs.YtoandhhkmkgmaaaGreatDoor
