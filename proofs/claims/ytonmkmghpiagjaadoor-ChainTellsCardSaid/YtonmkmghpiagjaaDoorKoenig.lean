/- As many apart as chains (KOENIG). -/
import Derived.Test.YtonmkmghpiagjaaDoorCount
import Derived.Test.YtonmkmghpiagjaaDoorApart
namespace Go.Proofs.YtonmkmghpiagjaaDoor

theorem mem_heads (ah : Nat → Int) (n k : Nat) : k ∈ heads ah n ↔ k < n ∧ ah k < 0 := by unfold heads; simp
theorem nodup_filter {L : List Nat} (p : Nat → Bool) (h : L.Nodup) : (L.filter p).Nodup := List.Pairwise.filter p h
theorem koenig {l : List Nat} (hg : Good l) {st : PSt} {a : Nat} (h : ApEnd (closed l) st a) : (nums a).length = (heads st.ah l.length).length := by
  obtain ⟨S, T, L, hs, hok, hcl, rfl⟩ := h
  have hgc := closed_good hg
  have hlen := closed_len l
  obtain ⟨hTb, hLb⟩ := apOk_b64 hgc hok
  have hab : B64 (minus T L) := minus_b64 hTb
  have hlt : ∀ {x}, L.testBit x = true → T.testBit x = true := fun hx => low_top hg hs hok hcl hx
  -- the tops without a next one
  have e1 : (nums (minus T L)).length + (nums L).length = (nums T).length := by
    have h1 := len_split (fun x => L.testBit x) (nums T)
    have h2 : (nums T).filter (fun x => L.testBit x) = nums L := by
      unfold nums
      rw [List.filter_filter]
      apply List.filter_congr
      intro x _
      cases hx : L.testBit x with
      | false => simp
      | true => simp [hlt hx]
    have h3 : (nums T).filter (fun x => !L.testBit x) = nums (minus T L) := by
      unfold nums
      rw [List.filter_filter]
      apply List.filter_congr
      intro x _
      rw [minus_bit hTb hLb]
      exact Bool.and_comm _ _
    rw [h2, h3] at h1
    omega
  have e2 : ((nums T).filter fun x => decide (st.nx x < 0)).length + (nums L).length = (nums T).length := by
    have h1 := len_split (fun x => decide (st.nx x < 0)) (nums T)
    have h2 : ((nums T).filter fun x => !decide (st.nx x < 0)).length = (nums L).length := by
      refine len_eq (fun x => (st.nx x).toNat) (fun k => (st.ah k).toNat) (nodup_filter _ (nums_nodup _)) (nums_nodup _) (fun x hx => ?_) (fun k hk => ?_)
      · rw [List.mem_filter, mem_nums hTb] at hx
        simp at hx
        obtain ⟨t1, t2⟩ := hok.tin x hx.1
        rcases t2 with t2 | ⟨k, t3, t4⟩
        · omega
        · have t5 := (hs.inv.nx_ok x k t1 t3).2.2
          rw [t3]
          simp only [Int.toNat_natCast]
          rw [t5]
          exact ⟨(mem_nums hLb).2 t4, by simp⟩
      · have hkb := (mem_nums hLb).1 hk
        obtain ⟨t1, j, t2, t3⟩ := hok.lin k hkb
        have t4 := (hs.inv.ah_ok k j t1 t2).2
        have t5 : st.nx j = (k : Int) := by
          rcases t4 with t4 | t4
          · exact t4
          · omega
        rw [t2]
        simp only [Int.toNat_natCast]
        rw [t5]
        refine ⟨?_, by simp⟩
        rw [List.mem_filter, mem_nums hTb]
        exact ⟨t3, by simp [t5]⟩
    omega
  have e3 : ((nums T).filter fun x => decide (st.nx x < 0)).length = ((List.range l.length).filter fun x => decide (st.nx x < 0)).length := by
    refine len_eq id id (nodup_filter _ (nums_nodup _)) (nodup_filter _ List.nodup_range) (fun x hx => ?_) (fun x hx => ?_)
    · rw [List.mem_filter, mem_nums hTb] at hx
      exact ⟨List.mem_filter.2 ⟨List.mem_range.2 (by rw [← hlen]; exact (hok.tin x hx.1).1), hx.2⟩, rfl⟩
    · rw [List.mem_filter] at hx
      have hx1 := List.mem_range.1 hx.1
      have hx2 : st.nx x < 0 := by simpa using hx.2
      exact ⟨List.mem_filter.2 ⟨(mem_nums hTb).2 (hok.tops x (by rw [hlen]; exact hx1) hx2), hx.2⟩, rfl⟩
  have e4 := len_split (fun x => decide (st.nx x < 0)) (List.range l.length)
  have e5 := len_split (fun x => decide (st.ah x < 0)) (List.range l.length)
  have e6 : ((List.range l.length).filter fun x => !decide (st.nx x < 0)).length = ((List.range l.length).filter fun x => !decide (st.ah x < 0)).length := by
    refine len_eq (fun x => (st.nx x).toNat) (fun k => (st.ah k).toNat) (nodup_filter _ List.nodup_range) (nodup_filter _ List.nodup_range) (fun x hx => ?_) (fun k hk => ?_)
    · rw [List.mem_filter, List.mem_range] at hx
      simp at hx
      have hx1 : x < (closed l).length := by rw [hlen]; exact hx.1
      obtain ⟨k, hk⟩ : ∃ k : Nat, st.nx x = (k : Int) := ⟨(st.nx x).toNat, by omega⟩
      obtain ⟨t1, _, t5⟩ := hs.inv.nx_ok x k hx1 hk
      rw [hk]
      simp only [Int.toNat_natCast]
      rw [t5]
      exact ⟨List.mem_filter.2 ⟨List.mem_range.2 (by rw [← hlen]; exact t1), by simp [t5]⟩, by simp⟩
    · rw [List.mem_filter, List.mem_range] at hk
      simp at hk
      have hk1 : k < (closed l).length := by rw [hlen]; exact hk.1
      obtain ⟨j, hj⟩ : ∃ j : Nat, st.ah k = (j : Int) := ⟨(st.ah k).toNat, by omega⟩
      obtain ⟨t1, t4⟩ := hs.inv.ah_ok k j hk1 hj
      have t5 : st.nx j = (k : Int) := by
        rcases t4 with t4 | t4
        · exact t4
        · omega
      rw [hj]
      simp only [Int.toNat_natCast]
      rw [t5]
      exact ⟨List.mem_filter.2 ⟨List.mem_range.2 (by rw [← hlen]; exact t1), by simp [t5]⟩, by simp⟩
  unfold heads
  rw [List.length_range] at e4 e5
  omega
end Go.Proofs.YtonmkmghpiagjaaDoor
