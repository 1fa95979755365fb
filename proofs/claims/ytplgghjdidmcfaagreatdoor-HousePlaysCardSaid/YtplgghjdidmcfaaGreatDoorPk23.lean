/- A row whose cells turn: small facts for exchanges. A page's packing; a house with a page turned, added, struck. The reference's house in memory: rows that are read alone, off the blocks of another's. -/
import Derived.Test.YtplgghjdidmcfaaGreatDoorPk14
import Derived.Test.YtplgghjdidmcfaaGreatDoorPk22
namespace Go.Proofs.YtplgghjdidmcfaaGreatDoor
open Go.RowKit
theorem own_setS {w : World} {base : Nat} {e : TypeId} {size n c : Nat} {ad : Addr} {xs : List Value} (h : OwnO w base e size (.slice (some ad) n c) n xs) {j : Nat} (hj : j < n * size) (u : Value) :
    OwnO (w.setCell (ad.add j) u) base e size (.slice (some ad) n c) n (xs.set j u) ∧ w.frozen? (ad.add j) = false := by
  rcases h.2 with ⟨h1, _⟩ | ⟨g, o, cap, cur, h1, h2, h3, h4, h5, h6, h7⟩
  · cases h1
  · injection h1 with h1 _ h1c
    injection h1 with h1
    subst h1; subst h1c
    have hadd : (⟨g, o, none⟩ : Addr).add j = ⟨g, o + j, none⟩ := by unfold Addr.add; split <;> simp_all
    rw [hadd]
    refine ⟨⟨by rw [List.length_set]; exact h.1, .inr ⟨g, o, c, cur.setIfInBounds (o + j) u, rfl, h2, by simp [World.setCell, Array.getElem?_modify, h3], h4, h5, by simpa using h6, ?_⟩⟩, by simp [World.frozen?, h3]⟩
    rw [Array.toList_setIfInBounds, ← h7]
    apply List.ext_getElem?
    intro i
    rw [List.getElem?_take, List.getElem?_drop, List.getElem?_set, List.getElem?_set, List.getElem?_take, List.getElem?_drop, List.length_take, List.length_drop]
    have hcl : cur.toList.length = cur.size := by simp
    have hnc : n * size ≤ c * size := Nat.mul_le_mul_right _ h4
    by_cases e : j = i
    · subst e
      rw [if_pos rfl, if_pos hj, if_pos rfl, if_pos (by omega), if_pos (by omega)]
    · by_cases hi : i < n * size
      · rw [if_pos hi, if_neg (show ¬ o + j = o + i by omega), if_neg e, if_pos hi]
      · rw [if_neg hi, if_neg e, if_neg hi]
theorem own_addrS {w : World} {base : Nat} {e : TypeId} {size n c : Nat} {ad : Addr} {xs : List Value} (h : OwnO w base e size (.slice (some ad) n c) n xs) : ∀ i j, i ≠ j → ad.add i ≠ ad.add j := by
  rcases h.2 with ⟨h1, _⟩ | ⟨g, o, cap, cur, h1, _⟩
  · cases h1
  · injection h1 with h1
    injection h1 with h1
    subst h1
    intro i j hij he
    have hadd : ∀ j, (⟨g, o, none⟩ : Addr).add j = ⟨g, o + j, none⟩ := fun j => by unfold Addr.add; split <;> simp_all
    rw [hadd, hadd] at he
    injection he with _ he
    omega
theorem add_one (ad : Addr) (k : Nat) : ad.add (k + 1) = ⟨(ad.add k).block, (ad.add k).off + 1, none⟩ := by rw [← add_add]; rfl
theorem add_two (ad : Addr) (k : Nat) : ad.add (k + 2) = ⟨(ad.add k).block, (ad.add k).off + 2, none⟩ := by rw [← add_add]; rfl
theorem gb_at {w w' : World} {ad : Addr} (h : w.grownBy w' (some ad.block)) (p : Addr) (u : Value) (hp : p.block = ad.block) : w.grownBy (w'.setCell p u) (some ad.block) :=
  gb_trans h ⟨rfl, rfl, rfl, by simp [World.setCell], fun k _ hk => Below.heap_setCell w' p u k (fun e => hk (by rw [e, hp]))⟩
/-- Two of a row exchanged. -/
theorem swap_two {α : Type} (A B C : List α) (x y : α) {i j : Nat} (hi : i = A.length) (hj : j = A.length + 1 + B.length) :
    (A ++ x :: (B ++ y :: C))[i]? = some x ∧ (A ++ x :: (B ++ y :: C))[j]? = some y ∧ ((A ++ x :: (B ++ y :: C)).set i y).set j x = A ++ y :: (B ++ x :: C) ∧ ((A ++ x :: (B ++ y :: C)).set j x).set i y = A ++ y :: (B ++ x :: C) := by
  subst hi; subst hj
  have e : ∀ z : α, A ++ z :: (B ++ y :: C) = (A ++ z :: B) ++ y :: C := fun z => by simp
  have hl : ∀ z : α, A.length + 1 + B.length = (A ++ z :: B).length := fun z => by simp; omega
  have s1 : ∀ (P : List α) (u v : α) (Q : List α), (P ++ u :: Q).set P.length v = P ++ v :: Q := fun P u v Q => by
    rw [List.set_append_right _ _ (Nat.le_refl _), Nat.sub_self]; rfl
  refine ⟨by simp, ?_, ?_, ?_⟩
  · rw [e x, hl x]; simp
  · rw [s1, e y, hl y, s1]; simp
  · rw [e x, hl x, s1]
    have : (A ++ x :: B) ++ x :: C = A ++ x :: (B ++ x :: C) := by simp
    rw [this, s1]
end Go.Proofs.YtplgghjdidmcfaaGreatDoor
namespace Go.Proofs.YtplgghjdidmcfaaGreatDoor
open Go.RowKit
theorem EdSt.lowerH {w : World} {base B g : Nat} {s : Es} {vB vO : Value} (h : EdSt w B g s vB vO) (hb : base ≤ B) : EdSt w base g s vB vO := ⟨h.blk, Nat.le_trans hb h.lo, h.b.lower hb, h.o.lower hb, h.ap⟩
/-- What a method of a page leaves, where its editor may be another. -/
structure PgTo3 (w w' : World) (base : Nat) (p : Pc) (s' : Ps) (p' : Pc) : Prop where
  at_ : PgAt w' base p'
  chg : Chg w w' (foot p)
  new_ : ∀ k, foot p' k → foot p k ∨ w.heap.size ≤ k
  s : p'.s = s'
  gf : p'.gf = p.gf
theorem PgTo.to3 {w w' : World} {base : Nat} {p p' : Pc} {s' : Ps} (h : PgTo w w' base p s' p') : PgTo3 w w' base p s' p' := ⟨h.at_, h.chg, h.new_, h.s, h.gf⟩
/-- The page's cell that names its editor. -/
abbrev edCell (pa : Addr) : Addr := ⟨pa.block, pa.off + 1, none⟩
/-- How the world ends: as it was behind the page's own turns, or with another editor in the page's cell. -/
def Ends (pa : Addr) (p p' : Pc) (w3 w' : World) : Prop := (w' = w3 ∧ p'.ge = p.ge) ∨ w' = w3.setCell (edCell pa) (.pointer (some ⟨p'.ge, 0, none⟩))
set_option maxRecDepth 100000 in
set_option maxHeartbeats 4000000 in
theorem pgPack_any (p : Pc) (pa : Addr) (base : Nat) (stop : Int) (w : World) (h : PgAt w base p) (hk : PsOk p.s) (hb : base ≤ w.heap.size) (hpl : pa.block < w.heap.size) (hpo : ¬ foot p pa.block) (hfr : w.frozen? (edCell pa) = false)
    (c1 : w.cell? ⟨pa.block, pa.off + 1, none⟩ = some (.pointer (some ⟨p.ge, 0, none⟩))) (c2 : w.cell? ⟨pa.block, pa.off + 2, none⟩ = some (.pointer (some ⟨p.gf, 0, none⟩))) :
    Calls Tryz.prog 26 #[.pointer (some pa), .int .i64 stop] w fun e w' => e = .returned (.int .i64 (pkE stop)) ∧ ∃ p' w3, PgTo3 w w3 base p (paP p.s stop) p' ∧ Ends pa p p' w3 w' := by
  have HP := Lib.hid h
  have HPA := Lib.hid (lfPack_any p.gf p.gl p.s.tx p.s.d p.s.sf stop w h.lf hk.lf)
  have HTZ : Hid ((pkT p.s.tx p.s.d p.s.sf stop).size ≤ 200) := (hk.lf.pack stop).text
  clear h hk
  by_cases hz : pkE stop = 0
  · have HZ := Lib.hid hz
    by_cases h0 : stop = 0
    · subst h0
      have HPP : Hid (paP p.s 0 = { p.s with d := pkD p.s.tx p.s.d p.s.sf 0, sf := pkF p.s.tx p.s.d p.s.sf 0 }) := by unfold Hid paP; rw [if_neg (fun e => e.2 rfl)]
      have HPT : Hid (pkT p.s.tx p.s.d p.s.sf 0 = p.s.tx) := pkT_same (fun e => e.2 rfl)
      rw [HZ.out]
      clear hz
      go_enter Tryz.func26, Tryz.ntmps26
      go_wp2_with fail
      refine HPA.out.mono ?_
      rintro e w3 ⟨gl', rfl, hgl, hL3, hg3⟩
      rw [HPT.out] at hL3
      have HF : Hid (∃ p' w4, PgTo3 w w4 base p (paP p.s 0) p' ∧ Ends pa p p' w4 w3) := by
        refine ⟨⟨paP p.s 0, p.ge, p.gf, gl', p.vB, p.vO⟩, w3, ⟨⟨?_, ?_, HP.out.bf, ?_⟩, Gbs.foot hg3, ?_, rfl, rfl⟩, .inl ⟨rfl, rfl⟩⟩
        · show EdSt w3 base p.ge (paP p.s 0).es p.vB p.vO
          rw [HPP.out]
          exact HP.out.ed.leafed HP.out.lf hg3
        · show LeafAt w3 p.gf gl' (paP p.s 0).tx (paP p.s 0).d (paP p.s 0).sf
          rw [HPP.out]
          exact hL3
        · rcases hgl with rfl | hgl
          · exact HP.out.bl
          · exact Nat.le_trans hb hgl
        · rintro k (hk | rfl | rfl)
          · exact .inl (.inl hk)
          · exact .inl (.inr (.inl rfl))
          · rcases hgl with h | h
            · exact .inl (.inr (.inr h))
            · exact .inr h
      rw [HZ.out]
      clear hL3 hg3 hgl
      go_wp2_with fail
      go_ret
      exact ⟨rfl, HF.out⟩
    · have HPP : Hid (paP p.s stop = ⟨p.s.nm, pkT p.s.tx p.s.d p.s.sf stop, pkD p.s.tx p.s.d p.s.sf stop, pkF p.s.tx p.s.d p.s.sf stop, [], []⟩) := by unfold Hid paP; rw [if_pos ⟨hz, h0⟩]
      have g1 : (stop != 0) = true := by rw [bne_iff_ne]; exact h0
      rw [HZ.out]
      clear hz h0
      unfold PackAns at HPA
      generalize pkT p.s.tx p.s.d p.s.sf stop = tx' at *
      generalize pkD p.s.tx p.s.d p.s.sf stop = d' at *
      generalize pkF p.s.tx p.s.d p.s.sf stop = sf' at *
      go_enter Tryz.func26, Tryz.ntmps26
      go_wp2_with fail
      refine HPA.out.mono ?_
      rintro e w3 ⟨gl', rfl, hgl, hL3, hg3⟩
      have hC3 : Chg w w3 (foot p) := Gbs.foot hg3
      have k1 := hC3.at_ (q := ⟨pa.block, pa.off + 1, none⟩) hpl hpo c1
      have k2 := hC3.at_ (q := ⟨pa.block, pa.off + 2, none⟩) hpl hpo c2
      have hpl3 : pa.block < w3.heap.size := Nat.lt_of_lt_of_le hpl hC3.size
      have hfr3 : w3.frozen? (edCell pa) = false := (World.frozen?_of_block (w := w) (a := edCell pa) (hC3.block pa.block hpl hpo)).trans hfr
      have HC3 := Lib.hid hC3
      have HL3 := Lib.hid hL3
      have HGL := Lib.hid hgl
      clear hC3 hL3 hg3 hgl c1 c2 hfr
      rw [HZ.out]
      go_wp2_with fail
      refine (lfText_any p.gf gl' tx' d' sf' w3 HL3.out).mono ?_
      rintro e w4 ⟨rfl, hb4⟩
      have q1 := (hb4.cell (p := ⟨pa.block, pa.off + 1, none⟩) hpl3).trans k1
      have hfr4 := (hb4.frozen (p := edCell pa) hpl3).trans hfr3
      have hpl4 : pa.block < w4.heap.size := Nat.lt_of_lt_of_le hpl3 hb4.size
      go_wp2_with fail
      refine (undoNew_any tx' HTZ.out w4).mono ?_
      rintro e w5 ⟨rfl, hE5, hb5⟩
      have r1 := (hb5.cell (p := ⟨pa.block, pa.off + 1, none⟩) hpl4).trans q1
      have hfr5 : w5.frozen? ⟨pa.block, pa.off + 1, none⟩ = false := (hb5.frozen (p := edCell pa) hpl4).trans hfr4
      have hb35 := bthen hb4 hb5
      have HF : Hid (∃ p' w6, PgTo3 w w6 base p (paP p.s stop) p' ∧ Ends pa p p' w6 (w5.setCell ⟨pa.block, pa.off + 1, none⟩ (.pointer (some ⟨w4.heap.size, 0, none⟩)))) := by
        have hsz : w.heap.size ≤ w4.heap.size := Nat.le_trans HC3.out.size hb4.size
        refine ⟨⟨paP p.s stop, w4.heap.size, p.gf, gl', .slice none 0 0, .slice none 0 0⟩, w5, ⟨⟨?_, ?_, HP.out.bf, ?_⟩, HC3.out.thenH hb35, ?_, rfl, rfl⟩, .inr rfl⟩
        · show EdSt w5 base w4.heap.size (paP p.s stop).es (.slice none 0 0) (.slice none 0 0)
          rw [HPP.out]
          exact hE5.lowerH (Nat.le_trans hb hsz)
        · show LeafAt w5 p.gf gl' (paP p.s stop).tx (paP p.s stop).d (paP p.s stop).sf
          rw [HPP.out]
          exact HL3.out.below hb35
        · rcases HGL.out with rfl | hgl
          · exact HP.out.bl
          · exact Nat.le_trans hb hgl
        · rintro k ((rfl | hk | hk) | rfl | rfl)
          · exact .inr hsz
          · simp [Value.ownBlock] at hk
          · simp [Value.ownBlock] at hk
          · exact .inl (.inr (.inl rfl))
          · rcases HGL.out with h | h
            · exact .inl (.inr (.inr h))
            · exact .inr h
      clear hE5 hb4 hb5 hb35 k1 k2 q1
      go_wp2_with fail
      go_ret
      exact ⟨rfl, HF.out⟩
  · have g1 : (pkE stop != 0) = true := by rw [bne_iff_ne]; exact hz
    have HPP := Lib.hid (paP_bad (s := p.s) hz)
    have HS : Hid (pkT p.s.tx p.s.d p.s.sf stop = p.s.tx ∧ pkD p.s.tx p.s.d p.s.sf stop = p.s.d ∧ pkF p.s.tx p.s.d p.s.sf stop = p.s.sf) := by
      have hq : ¬ (0 ≤ stop ∧ stop ≤ 3) := fun e => hz (by unfold pkE; rw [if_pos e])
      unfold Hid pkT pkD pkF
      rw [if_neg (by omega), if_neg (by omega), if_neg (by omega), if_neg (by omega), if_neg (by omega)]
      exact ⟨rfl, rfl, rfl⟩
    obtain ⟨z, hze⟩ : ∃ z, pkE stop = z := ⟨_, rfl⟩
    rw [hze] at g1
    have HZE := Lib.hid hze
    clear hz hze
    go_enter Tryz.func26, Tryz.ntmps26
    go_wp2_with fail
    refine HPA.out.mono ?_
    rintro e w3 ⟨gl', rfl, hgl, hL3, hg3⟩
    rw [HS.out.1, HS.out.2.1, HS.out.2.2] at hL3
    have HF : Hid (∃ p' w6, PgTo3 w w6 base p (paP p.s stop) p' ∧ Ends pa p p' w6 w3) := by
      refine ⟨⟨p.s, p.ge, p.gf, gl', p.vB, p.vO⟩, w3, ⟨⟨HP.out.ed.leafed HP.out.lf hg3, hL3, HP.out.bf, ?_⟩, Gbs.foot hg3, ?_, HPP.out.symm, rfl⟩, .inl ⟨rfl, rfl⟩⟩
      · rcases hgl with rfl | hgl
        · exact HP.out.bl
        · exact Nat.le_trans hb hgl
      · rintro k (hk | rfl | rfl)
        · exact .inl (.inl hk)
        · exact .inl (.inr (.inl rfl))
        · rcases hgl with h | h
          · exact .inl (.inr (.inr h))
          · exact .inr h
    rw [HZE.out]
    clear hL3 hg3 hgl
    go_wp2_with fail
    go_ret
    exact ⟨ret_int HZE.out.symm, HF.out⟩
theorem flat_setH {α : Type} {ec : α → List Value} {m : Nat} (hec : ∀ x, (ec x).length = m) {y : α} {j : Nat} (hj : j < m) {u : Value} : ∀ (l : List α) (i : Nat) (x : α), l[i]? = some x → ec y = (ec x).set j u → (l.flatMap ec).set (i * m + j) u = (l.set i y).flatMap ec
  | [], i, x, h, _ => by simp at h
  | a :: l, 0, x, h, he => by
    injection h with h
    subst h
    rw [List.set_cons_zero, List.flatMap_cons, List.flatMap_cons, he, Nat.zero_mul, Nat.zero_add, List.set_append_left _ _ (by rw [hec]; exact hj)]
  | a :: l, i + 1, x, h, he => by
    rw [List.getElem?_cons_succ] at h
    rw [List.set_cons_succ, List.flatMap_cons, List.flatMap_cons, ← flat_setH hec hj l i x h he, List.set_append_right _ _ (by rw [hec, Nat.add_mul]; omega)]
    congr 2
    rw [hec, Nat.add_mul]; omega
theorem Chg.setH (w : World) (q : Addr) (u : Value) : Chg w (w.setCell q u) (fun k => k = q.block) := ⟨rfl, rfl, rfl, by simp [World.setCell], fun k _ hk => Below.heap_setCell w q u k hk⟩
section
variable {w w' w3 : World} {base gh : Nat} {v : Value} {ps : List Pc}
/-- One page has turned, and may have another editor, which its cell names. -/
theorem HsAt.page1 {ad : Addr} {n c : Nat} (h : HsAt w base gh (.slice (some ad) n c) ps) {i : Nat} (hi : i < ps.length) {p' : Pc} {s' : Ps} (hp : PgTo3 w w3 base ps[i] s' p') (hnm : s'.nm = ps[i].s.nm) :
    HsAt (w3.setCell (edCell (ad.add (i * 3))) (.pointer (some ⟨p'.ge, 0, none⟩))) base gh (.slice (some ad) n c) (ps.set i p') := by
  have hn : n = ps.length := by
    obtain ⟨A, c', hv, _⟩ := h.row.form
    injection hv with _ hv
  subst hn
  have hm := List.getElem_mem hi
  have hrow : OwnO w3 base 61 3 (.slice (some ad) ps.length c) ps.length (pcCells ps) := h.row.chg hp.chg fun k hk => h.offRow hm hk
  have hj : i * 3 + 1 < ps.length * 3 := by omega
  have hset := (own_setS hrow hj (.pointer (some ⟨p'.ge, 0, none⟩))).1
  rw [add_one] at hset
  have hcl : (pcCells ps).set (i * 3 + 1) (.pointer (some ⟨p'.ge, 0, none⟩)) = pcCells (ps.set i p') := flat_setH pc_len (by omega) ps i ps[i] (List.getElem?_eq_getElem hi) (by
    show [_, _, _] = [_, _, _]
    rw [hp.s, hp.gf, hnm])
  rw [hcl] at hset
  have hrk : ∀ k, k = (edCell (ad.add (i * 3))).block → tyOf w3 k 61 := fun k hk => hrow.ty (by
    rw [hk]
    show some ad.block = some (ad.add (i * 3)).block
    rw [blk_add])
  have hcs := Chg.setH w3 (edCell (ad.add (i * 3))) (.pointer (some ⟨p'.ge, 0, none⟩))
  have hoff : ∀ q, PgAt w3 base q → ∀ k, foot q k → ¬ k = (edCell (ad.add (i * 3))).block := fun q hq k hk he => hq.off (hrk k he) (by decide) (by decide) (by decide) (by decide) hk
  have hbox : Blk w3 gh 57 #[.slice (some ad) ps.length c] := h.blk.chgH hp.chg (h.offBox hm)
  refine ⟨hbox.chgH hcs fun he => absurd (hbox.ty.ne (hrk _ he)) (by decide), h.lo, by rw [List.length_set]; exact hset, fun q hq => ?_, dis_set h.dis hi (fun q hq k hk => ((h.pg q hq).lt hk).2) hp.new_⟩
  obtain ⟨j, hj2, rfl⟩ := List.getElem_of_mem hq
  rw [List.length_set] at hj2
  rw [List.getElem_set]
  split
  · exact hp.at_.chg hcs (hoff _ hp.at_)
  · rename_i hij
    have h3 : PgAt w3 base ps[j] := (h.pg _ (List.getElem_mem hj2)).chg hp.chg fun k h1 h2 => dis_at h.dis hj2 hi (fun e => hij e.symm) h1 h2
    exact h3.chg hcs (hoff _ h3)
/-- How a page's method ends, seen from the house. -/
structure HsTo (w w' : World) (base gh : Nat) (v : Value) (ps : List Pc) (P' : List Ps) : Prop where
  ex : ∃ v' ps', HsAt w' base gh v' ps' ∧ ps'.map Pc.s = P' ∧ ∀ k, HK gh v' ps' k → HK gh v ps k ∨ w.heap.size ≤ k
  chg : Chg w w' (HK gh v ps)
theorem HsTo.ofPage {ad : Addr} {n c : Nat} (h : HsAt w base gh (.slice (some ad) n c) ps) {i : Nat} (hi : i < ps.length) {p' : Pc} {s' : Ps} (hp : PgTo3 w w3 base ps[i] s' p') (hnm : s'.nm = ps[i].s.nm) (he : Ends (ad.add (i * 3)) ps[i] p' w3 w') :
    HsTo w w' base gh (.slice (some ad) n c) ps ((ps.map Pc.s).set i s') := by
  have hc : Chg w w3 (HK gh (.slice (some ad) n c) ps) := hp.chg.monoH fun k _ hk => HK.ofPage hi hk
  have hmap : (ps.set i p').map Pc.s = (ps.map Pc.s).set i s' := by rw [List.map_set, hp.s]
  rcases he with ⟨rfl, hge⟩ | rfl
  · refine ⟨⟨_, ps.set i p', h.page hi hp.at_ hp.chg hp.new_ ?_, hmap, HK.set_ hi hp.new_⟩, hc⟩
    show [_, _, _] = [_, _, _]
    rw [hp.s, hp.gf, hge, hnm]
  · refine ⟨⟨_, ps.set i p', h.page1 hi hp hnm, hmap, HK.set_ hi hp.new_⟩, hc.trans (Chg.setH w3 _ _) fun k hk hlt => ?_⟩
    subst hk
    refine .inr (.inl ?_)
    show some ad.block = some (ad.add (i * 3)).block
    rw [blk_add]
theorem HsTo.same (h : HsAt w base gh v ps) (hb : Below w.heap.size w w') : HsTo w w' base gh v ps (ps.map Pc.s) := ⟨⟨v, ps, h.below hb, rfl, fun _ hk => .inl hk⟩, Chg.ofB hb⟩
end
end Go.Proofs.YtplgghjdidmcfaaGreatDoor
namespace Go.Proofs.YtplgghjdidmcfaaGreatDoor
open Go.RowKit
theorem Chg.cellH {w w' : World} {K : Nat → Prop} (h : Chg w w' K) {p : Addr} (hp : p.block < w.heap.size) (hK : ¬ K p.block) : w'.cell? p = w.cell? p := World.cell?_of_block (w := w) (h.block p.block hp hK)
/-- An address off some blocks. -/
def Off (K : Nat → Prop) (A : Option Addr) : Prop := ∀ ad, A = some ad → ¬ K ad.block
theorem Off.nil_ (K : Nat → Prop) : Off K none := fun ad h => by cases h
theorem Off.mono {K K' : Nat → Prop} {A : Option Addr} {N : Nat} (h : Off K A) (hA : ∀ ad, A = some ad → ad.block < N) (hK : ∀ k, K' k → K k ∨ N ≤ k) : Off K' A := fun ad e hk => by
  rcases hK _ hk with hk | hk
  · exact h ad e hk
  · have := hA ad e; omega
/-- A row that is read, in a block that stands, off some blocks. -/
structure RdK (w : World) (K : Nat → Prop) (size : Nat) (A : Option Addr) (n : Nat) (xs : List Value) : Prop where
  rd : Rd w w.heap.size size A n xs
  off : Off K A
  lt : ∀ ad, A = some ad → ad.block < w.heap.size
section
variable {w w' : World} {K K' : Nat → Prop} {size n : Nat} {A : Option Addr} {xs : List Value}
theorem RdK.nil_ (w : World) (K : Nat → Prop) (size : Nat) : RdK w K size none 0 [] := ⟨Rd.nil_, Off.nil_ K, fun ad h => by cases h⟩
theorem RdK.below (h : RdK w K size A n xs) (hb : Below w.heap.size w w') : RdK w' K size A n xs := ⟨(h.rd.below hb).more hb.size, h.off, fun ad e => Nat.lt_of_lt_of_le (h.lt ad e) hb.size⟩
theorem RdK.chg (h : RdK w K size A n xs) (hc : Chg w w' K) : RdK w' K size A n xs := by
  refine ⟨⟨h.rd.1, fun hn => ?_⟩, h.off, fun ad e => Nat.lt_of_lt_of_le (h.lt ad e) hc.size⟩
  obtain ⟨ad, e, hb, hcl⟩ := h.rd.2 hn
  refine ⟨ad, e, Nat.lt_of_lt_of_le hb hc.size, fun j u hu => ?_⟩
  rw [hc.cellH (by rw [blk_add]; exact hb) (by rw [blk_add]; exact h.off ad e)]
  exact hcl j u hu
theorem RdK.mono (h : RdK w K size A n xs) (hK : ∀ k, K' k → K k ∨ w.heap.size ≤ k) : RdK w K' size A n xs := ⟨h.rd, h.off.mono h.lt hK, h.lt⟩
/-- A row of the call's own, made since. -/
theorem RdK.own {base : Nat} {e : TypeId} {v : Value} (h : OwnO w base e size v n xs) (hK : ∀ k, K k → k < base) : ∃ A c, v = .slice A n c ∧ n ≤ c ∧ c ≤ maxLen ∧ RdK w K size A n xs := by
  obtain ⟨A, c, rfl, h1, h2, h3⟩ := h.form
  refine ⟨A, c, rfl, h1, h2, h3, fun ad e hk => ?_, fun ad e => ?_⟩
  · have := (h.lt ad.block (by rw [e]; rfl)).1
    have := hK _ hk
    omega
  · exact (h.lt ad.block (by rw [e]; rfl)).2
end
structure Rc where
  s : Ps
  Ab : Option Addr
  cb : Nat
  Ao : Option Addr
  co : Nat
def Rc.cells (r : Rc) : List Value := [.string r.s.nm, .string r.s.tx, .string r.s.d, .int .i64 (r.s.sf : Int), .slice r.Ab r.s.back.length r.cb, .slice r.Ao r.s.onward.length r.co]
def rcCells (l : List Rc) : List Value := l.flatMap Rc.cells
theorem rc_len (r : Rc) : r.cells.length = 6 := rfl
theorem rcCells_len (l : List Rc) : (rcCells l).length = l.length * 6 := flat_len rc_len l
theorem rcCells_append (a b : List Rc) : rcCells (a ++ b) = rcCells a ++ rcCells b := by simp [rcCells]
theorem rc_one (l : List Rc) : ∀ u ∈ rcCells l, u.oneCell' = true := by
  intro u hu
  unfold rcCells at hu
  obtain ⟨x, _, hx⟩ := List.mem_flatMap.1 hu
  simp only [Rc.cells, List.mem_cons, List.not_mem_nil, or_false] at hx
  rcases hx with rfl | rfl | rfl | rfl | rfl | rfl <;> rfl
structure RcAt (w : World) (K : Nat → Prop) (r : Rc) : Prop where
  b : RdK w K 1 r.Ab r.s.back.length (strCells r.s.back)
  o : RdK w K 1 r.Ao r.s.onward.length (strCells r.s.onward)
  cb : r.s.back.length ≤ r.cb ∧ r.cb ≤ maxLen
  co : r.s.onward.length ≤ r.co ∧ r.co ≤ maxLen
structure RhAt (w : World) (K : Nat → Prop) (A : Option Addr) (c : Nat) (rs : List Rc) : Prop where
  row : RdK w K 6 A rs.length (rcCells rs)
  c : rs.length ≤ c ∧ c ≤ maxLen
  pg : ∀ r ∈ rs, RcAt w K r
section
variable {w w' : World} {K K' : Nat → Prop} {A : Option Addr} {c : Nat} {r : Rc} {rs : List Rc}
theorem RcAt.below (h : RcAt w K r) (hb : Below w.heap.size w w') : RcAt w' K r := ⟨h.b.below hb, h.o.below hb, h.cb, h.co⟩
theorem RcAt.chg (h : RcAt w K r) (hc : Chg w w' K) : RcAt w' K r := ⟨h.b.chg hc, h.o.chg hc, h.cb, h.co⟩
theorem RcAt.mono (h : RcAt w K r) (hK : ∀ k, K' k → K k ∨ w.heap.size ≤ k) : RcAt w K' r := ⟨h.b.mono hK, h.o.mono hK, h.cb, h.co⟩
theorem RhAt.below (h : RhAt w K A c rs) (hb : Below w.heap.size w w') : RhAt w' K A c rs := ⟨h.row.below hb, h.c, fun r hr => (h.pg r hr).below hb⟩
theorem RhAt.chg (h : RhAt w K A c rs) (hc : Chg w w' K) : RhAt w' K A c rs := ⟨h.row.chg hc, h.c, fun r hr => (h.pg r hr).chg hc⟩
theorem RhAt.mono (h : RhAt w K A c rs) (hK : ∀ k, K' k → K k ∨ w.heap.size ≤ k) : RhAt w K' A c rs := ⟨h.row.mono hK, h.c, fun r hr => (h.pg r hr).mono hK⟩
theorem RhAt.nil_ (w : World) (K : Nat → Prop) : RhAt w K none 0 [] := ⟨RdK.nil_ w K 6, ⟨Nat.le_refl _, Nat.zero_le _⟩, fun r h => by cases h⟩
end
end Go.Proofs.YtplgghjdidmcfaaGreatDoor
