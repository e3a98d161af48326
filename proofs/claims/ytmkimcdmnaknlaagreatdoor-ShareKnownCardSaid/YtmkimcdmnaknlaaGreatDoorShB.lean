/- The word for slices.AppendSeq over the values of a slice of ints is true.
   Conditions: none. -/
import Derived.Test.YtmkimcdmnaknlaaGreatDoorShA
import Derived.Test.YtmkimcdmnaknlaaGreatDoorShS
namespace Go.Proofs.YtmkimcdmnaknlaaGreatDoor
open Go Go.Ev Go.RowKit

theorem appOf_eq {H : AH} {l : List Value} {len : Nat} {v : Value} {H' : AH} (h : appOf H l len = some (v, H')) :
    ∃ zs : List Int, l = zs.map (fun z => .int .i64 z) ∧ zs.length = len ∧ 0 < len ∧ len < 90000 ∧ v = .slice (some ⟨H.next, 0, none⟩) len (UNK + 1) ∧ H' = H.push (.cells len (zs.map fun z => .int .i64 z) 3) := by
  unfold appOf at h
  obtain ⟨h1, h⟩ := need_eq h
  obtain ⟨h2, h⟩ := need_eq h
  obtain ⟨h3, h⟩ := need_eq h
  obtain ⟨zs, h4, h5⟩ := withX_eq h
  cases h5
  have e := intsOf_eq h4
  have h1 := eq_of_beq' h1
  rw [lenN_eq, e, List.length_map] at h1
  rw [Nat.blt_eq] at h2 h3
  exact ⟨zs, e, h1, h2, h3, rfl, rfl⟩
theorem appS_eq {H : AH} {u v : Value} {H' : AH} (h : appS H u = some (v, H')) :
    ∃ b off len cap s ds e, u = .slice (some ⟨b, off, none⟩) len cap ∧ H.get b = some (.cells s ds e) ∧ appOf H (seg ds off len) len = some (v, H') := by
  unfold appS at h
  split at h
  · split at h
    · rename_i hg
      exact ⟨_, _, _, _, _, _, _, rfl, hg, h⟩
    · cases h
  · cases h
theorem sApp_eq {lo : Nat} {args : List Value} {H : AH} {v : Value} {H' : AH} (h : sApp lo args H = some (v, H')) :
    ∃ f c bs o s cs e u, args = [.slice none 0 0, .func (.func 57) f c] ∧ f.toList = [] ∧ c.toList = [.pointer (some ⟨bs, o, none⟩)] ∧ H.get bs = some (.cells s cs e) ∧ cs[o]? = some u ∧ appS H u = some (v, H') := by
  unfold sApp at h
  split at h
  · rename_i g f c
    obtain ⟨h1, h⟩ := need_eq h
    have := eq_of_beq' h1
    subst this
    split at h
    · rename_i hf
      split at h
      · rename_i bs o hc
        split at h
        · rename_i hg
          obtain ⟨u, h2, h3⟩ := withX_eq h
          rw [nth_eq] at h2
          exact ⟨f, c, bs, o, _, _, _, u, rfl, hf, hc, hg, h2, h3⟩
        · cases h
      · cases h
    · cases h
  · cases h

theorem cell_at {W : World} {b o : Nat} {c : Array Value} {e : TypeId} {fz : Nat × Nat} {v : Value} (h : W.heap[b]? = some (.cells c e fz)) (hv : c[o]? = some v) : W.cell? ⟨b, o, none⟩ = some v := by
  simp [World.cell?, h, hv]

theorem sApp_ok : SpecOk Tryz.prog 2 80 sApp := SpecOk.of fun lo args H v H' hlo hh => by
  obtain ⟨f, c, bs, o, s, cs, e, u, rfl, hf, hc, hgs, hcs, hu⟩ := sApp_eq hh
  obtain ⟨b, off, len, cap, s2, ds, e2, rfl, hgb, ha⟩ := appS_eq hu
  obtain ⟨zs, hz, hlen, h0, hmax, rfl, rfl⟩ := appOf_eq ha
  refine ⟨⟨_, Tryz.func80, rfl, by kernel_rfl⟩, fun ρ w args' hH hA => ?_⟩
  cases hA with
  | cons ha0 t => cases t with
    | cons ha1 t => cases t with
      | nil =>
        rename_i a0 a1
        have e0 : a0 = .slice none 0 0 := by cases ha0 with | flat _ => rfl
        subst e0
        obtain ⟨f', c', rfl, hf', hc'⟩ : ∃ f' c', a1 = .func (.func 57) f' c' ∧ LRel ρ f.toList f'.toList ∧ LRel ρ c.toList c'.toList := by
          cases ha1 with
          | flat h => simp [Ev.flat] at h
          | func h h' => exact ⟨_, _, rfl, h, h'⟩
        rw [hf] at hf'
        rw [hc] at hc'
        have ef : f' = #[] := by
          cases f' with | mk l => cases hf' with | nil => rfl
        subst ef
        obtain ⟨p', hp, ec⟩ : ∃ p', VRel ρ (.pointer (some ⟨bs, o, none⟩)) p' ∧ c' = #[p'] := by
          cases c' with | mk l => cases hc' with | cons h t => cases t with | nil => exact ⟨_, h, rfl⟩
        subst ec
        obtain ⟨l1, hl1, rfl⟩ : ∃ l, ρ bs = some l ∧ p' = .pointer (some ⟨l.blk, l.sh + o, none⟩) := by
          cases hp with
          | flat h => simp [Ev.flat] at h
          | ptr h => exact ⟨_, h, rfl⟩
        obtain ⟨l1', hl1', hfit1, _⟩ := hH.fit bs _ (dom_some hl1) hgs
        rw [hl1] at hl1'; cases hl1'
        obtain ⟨_, _, c1, fz1, hc1, _, hall1⟩ := hfit1
        obtain ⟨u', hu', hur⟩ := hall1 o _ hcs
        obtain ⟨l2, c2, hl2, rfl⟩ : ∃ l c, ρ b = some l ∧ u' = .slice (some ⟨l.blk, l.sh + off, none⟩) len c := by
          cases hur with
          | flat h => simp [Ev.flat] at h
          | slice h h1 h2 => exact ⟨_, _, h, rfl⟩
          | sliceE h _ _ => omega
        obtain ⟨l2', hl2', hfit2, _⟩ := hH.fit b _ (dom_some hl2) hgb
        rw [hl2] at hl2'; cases hl2'
        obtain ⟨_, _, cb, fz2, hcb, _, hall2⟩ := hfit2
        have hints : ∀ j, j < zs.length → w.cell? ⟨l2.blk, l2.sh + off + j, none⟩ = some (.int .i64 (zs[j]?.getD 0)) := by
          intro j hj
          have h1 : (seg ds off len)[j]? = some (.int .i64 zs[j]) := by rw [hz, List.getElem?_map, List.getElem?_eq_getElem hj]; rfl
          rw [get_seg, if_pos (by omega)] at h1
          obtain ⟨x, hx, hr⟩ := hall2 _ _ h1
          have ex : x = .int .i64 zs[j] := hr.int_eq
          subst ex
          rw [List.getElem?_eq_getElem hj, Option.getD_some]
          exact cell_at hcb (by rw [Nat.add_assoc]; exact hx)
        subst hlen
        have hmx : zs.length ≤ maxLen := Nat.le_trans (Nat.le_of_lt hmax) (by decide)
        have key := callsIn_wide.1 (app_in Fence.wide 2 trivial trivial rfl (Nat.le_refl 2) l1.blk (l1.sh + o) l2.blk (l2.sh + off) c2 zs hmx (by omega) w (hH.dom bs l1 hl1).2 (hH.dom b l2 hl2).2 ⟨cell_at hc1 hu', hints⟩)
        refine Calls.mono key fun e' w' => ?_
        rintro ⟨v', rfl, hrow, hnil, hbel⟩
        obtain ⟨g, cp, cur, rfl, hbase, hgc, r1, r2, r3, r4⟩ : ∃ g cap cur, v' = .slice (some ⟨g, 0, none⟩) zs.length cap ∧ w.heap.size ≤ g ∧ w'.heap[g]? = some (.cells cur 3 (0, 0)) ∧ zs.length ≤ cap ∧ cap ≤ maxLen ∧ cur.size = cap * 1 ∧ cur.toList.take (zs.length * 1) = zs.map encZ := by
          rcases hrow.2 with ⟨_, h⟩ | h
          · omega
          · exact h
        have hgl : g < w'.heap.size := (Array.getElem?_eq_some_iff.1 hgc).1
        have hext : Ext ρ (upd ρ H.next ⟨g, 0, cp⟩) := upd_ext hH _
        have hnew : upd ρ H.next ⟨g, 0, cp⟩ H.next = some ⟨g, 0, cp⟩ := upd_same _ _ _
        refine ⟨_, upd ρ H.next ⟨g, 0, cp⟩, rfl, ?_, ?_⟩
        · exact VRel.slice (off := 0) (l := ⟨g, 0, cp⟩) hnew (fun h => absurd h (by omega)) (fun _ => ⟨r1, by show 0 + 0 + cp * (UNK + 1 - UNK) ≤ cp; rw [Nat.add_sub_cancel_left]; omega⟩)
        · have thawg : thawed w' g := fun c e fz h => by rw [hgc] at h; cases h; rfl
          have fitn : OFit Tryz.prog (upd ρ H.next ⟨g, 0, cp⟩) (.cells zs.length (zs.map fun z => .int .i64 z) 3) ⟨g, 0, cp⟩ w' := by
            refine ⟨by simp, by show 0 + zs.length ≤ cp; omega, cur, (0, 0), hgc, by rw [r3, Nat.mul_one], fun i x hi => ?_⟩
            rw [Nat.mul_one] at r4
            have hi' := hi
            rw [List.getElem?_map] at hi'
            obtain ⟨z, hz1, rfl⟩ := Option.map_eq_some_iff.1 hi'
            have hlt : i < zs.length := (List.getElem?_eq_some_iff.1 hz1).1
            refine ⟨.int .i64 z, ?_, .flat rfl⟩
            have : (cur.toList.take zs.length)[i]? = some (.int .i64 z) := by rw [r4, List.getElem?_map, hz1]; rfl
            rw [List.getElem?_take, if_pos hlt] at this
            rw [Nat.zero_add, ← Array.getElem?_toList]; exact this
          refine { agree := fun i hi => upd_ne _ (by omega), next := by simp, rel := ⟨?_, ?_, ?_, ?_⟩, size := hbel.size, alive := ?_, keep := ?_, frame := fun b' hb' _ => hbel.block b' hb', newb := ?_, full := ?_, env := ⟨hbel.os, hbel.output⟩, melt := ?_ }
          · intro i o' hk ho
            rw [AH.get_push] at ho
            by_cases hi : i = H.next
            · subst hi
              rw [if_pos rfl] at ho; cases ho
              exact ⟨_, hnew, fitn, fun _ => thawg⟩
            · rw [if_neg hi] at ho
              have hk' : dom ρ i := by
                rcases hk with hk | ⟨h1, h2⟩
                · exact hk
                · rwa [upd_ne _ hi] at h2
              obtain ⟨m, hm, hfm, ht⟩ := hH.fit i o' hk' ho
              have hlt := (hH.dom i m hm).2
              exact ⟨m, by rw [upd_ne _ hi]; exact hm, (hfm.same (hbel.block _ hlt)).mono hext, fun hb => by
                have := ht hb
                simpa only [thawed, hbel.block _ hlt] using this⟩
          · intro i j oi oj li lj hki hkj hoi hoj hli hlj hbb
            have aux : ∀ {i : Nat} {li : Ev.Loc}, i ≠ H.next → upd ρ H.next ⟨g, 0, cp⟩ i = some li → ρ i = some li ∧ li.blk < w.heap.size := by
              intro i li hi hli
              rw [upd_ne _ hi] at hli
              exact ⟨hli, (hH.dom i li hli).2⟩
            rw [AH.get_push] at hoi hoj
            by_cases hi : i = H.next
            · by_cases hj : j = H.next
              · rw [hi, hj]
              · have := (aux hj hlj).2
                rw [hi, hnew] at hli; cases hli
                simp only at hbb; omega
            · by_cases hj : j = H.next
              · have := (aux hi hli).2
                rw [hj, hnew] at hlj; cases hlj
                simp only at hbb; omega
              · rw [if_neg hi] at hoi; rw [if_neg hj] at hoj
                exact hH.inj i j oi oj li lj (dom_some (aux hi hli).1) (dom_some (aux hj hlj).1) hoi hoj (aux hi hli).1 (aux hj hlj).1 hbb
          · intro i m hm
            by_cases hi : i = H.next
            · rw [hi, hnew] at hm; cases hm
              exact ⟨by simp [hi], hgl⟩
            · rw [upd_ne _ hi] at hm
              have := hH.dom i m hm
              have := hbel.size
              exact ⟨by simp; omega, by omega⟩
          · intro x hx
            obtain ⟨m, hm, h1, h2⟩ := hH.glob x hx
            exact ⟨m, hext x m hm, h1, h2⟩
          · intro i hi ha
            rw [AH.get_push, if_neg (by omega)] at ha; exact ha
          · intro i hi _
            rw [AH.get_push, if_neg (by omega)]
          · intro i m hi hm
            by_cases hn : i = H.next
            · rw [hn, hnew] at hm; cases hm
              exact .inl hbase
            · rw [upd_ne _ hn] at hm
              exact absurd (hH.dom i m hm).1 (by omega)
          · intro i h1 h2
            have : i = H.next := by have : i < H.next + 1 := h2; omega
            subst this
            exact ⟨_, hnew⟩
          · intro b' hb' ht
            simpa only [thawed, hbel.block b' hb'] using ht
end Go.Proofs.YtmkimcdmnaknlaaGreatDoor
