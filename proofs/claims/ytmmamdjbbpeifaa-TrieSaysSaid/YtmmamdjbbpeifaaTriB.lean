/- trie.build: the words are laid. -/
import Derived.Test.YtmmamdjbbpeifaaTriC0
import Derived.Test.YtmmamdjbbpeifaaTreB
import Derived.Test.YtmmamdjbbpeifaaTab
import Derived.Test.YtmmamdjbbpeifaaSched
import Derived.Test.YtmmamdjbbpeifaaSchedZ
import Derived.Deep.LoopGhost
import Derived.Test.YtmmamdjbbpeifaaLogW
namespace Go.Proofs.Ytmmamdjbbpeifaa
open Go.RowKit
theorem info_node : (Try.prog.info? 72).map (fun i => (i.zero, i.size, i.bytes)) = some (some (.agg #[.slice none 0 0, .int .i64 0, .int .i64 0]), 3, 40) := by kernel_rfl
theorem info_edge : (Try.prog.info? 96).map (fun i => (i.zero, i.size, i.bytes)) = some (some (.agg #[.int .u8 0, .int .i64 0]), 2, 16) := by kernel_rfl
/-- The tree, k words laid, and q bytes of the next. -/
structure BuPl (ps : List (List UInt8)) (k q : Nat) (wd : List (List UInt8)) (T : List TNd) : Prop where
  ok : TrOk wd T
  en : EnOk ps k wd T
  fl : ∀ nd ∈ T, nd.fl = 0
  has : ∀ (j : Nat) p, j < k → ps[j]? = some p → p ∈ wd
  cnt : T.length ≤ 1 + 20 * k + q
section
variable {ps : List (List UInt8)} {k q : Nat} {wd : List (List UInt8)} {T : List TNd}
theorem BuPl.start : BuPl ps 0 0 [[]] [⟨[], 0, -1⟩] := ⟨TrOk.start, EnOk.start, fun nd h => by rw [List.mem_singleton] at h; subst h; rfl, fun j p hj => absurd hj (by omega), by simp⟩
theorem BuPl.keep (h : BuPl ps k q wd T) : BuPl ps k (q + 1) wd T := ⟨h.ok, h.en, h.fl, h.has, by have := h.cnt; omega⟩
theorem BuPl.grow (h : BuPl ps k q wd T) {i : Nat} {nd : TNd} {u : List UInt8} (h1 : T[i]? = some nd) (h2 : wd[i]? = some u) {c : UInt8} (hn : u ++ [c] ∉ wd) : BuPl ps k (q + 1) (wd ++ [u ++ [c]]) (T.set i ⟨nd.nx ++ [(c, T.length)], nd.fl, nd.en⟩ ++ [⟨[], 0, -1⟩]) where
  ok := h.ok.grow h1 h2 hn
  en := h.en.grow h.ok h1 hn h.has
  fl := by
    intro x hx
    rcases List.mem_append.1 hx with hx | hx
    · rcases List.mem_or_eq_of_mem_set hx with hx | rfl
      · exact h.fl x hx
      · exact h.fl nd (List.mem_of_getElem? h1)
    · rw [List.mem_singleton] at hx; subst hx; rfl
  has := fun j p hj hp => List.mem_append_left _ (h.has j p hj hp)
  cnt := by
    have := h.cnt
    rw [List.length_append, List.length_set, List.length_singleton]; omega
theorem BuPl.mark (h : BuPl ps k q wd T) (hq : q ≤ 20) {i : Nat} {nd : TNd} {p : List UInt8} (h1 : T[i]? = some nd) (h2 : wd[i]? = some p) (hp : ps[k]? = some p) (hnd : ps.Nodup) : BuPl ps (k + 1) 0 wd (T.set i ⟨nd.nx, nd.fl, (k : Int)⟩) where
  ok := h.ok.turn h1 _ _
  en := h.en.mark h.ok h1 h2 hp hnd
  fl := by
    intro x hx
    rcases List.mem_or_eq_of_mem_set hx with hx | rfl
    · exact h.fl x hx
    · exact h.fl nd (List.mem_of_getElem? h1)
  has := by
    intro j p' hj hp'
    rcases Nat.lt_or_ge j k with hj' | hj'
    · exact h.has j p' hj' hp'
    · obtain rfl : j = k := by omega
      rw [hp] at hp'
      injection hp' with hp'
      subst hp'
      exact List.mem_of_getElem? h2
  cnt := by
    have := h.cnt
    rw [List.length_set]; omega
end
theorem map_set_nd (T : List Tm) (i : Nat) (y : Tm) : (T.set i y).map Tm.nd = (T.map Tm.nd).set i y.nd := List.map_set
theorem at0 (a : Addr) : a.add (0 * 3) = a := by unfold Addr.add; rfl
/-- The tree and where it lies. -/
structure BuAt (ps : List (List UInt8)) (k q : Nat) (w : World) (B : Nat) (A : Option Addr) (c : Nat) (wd : List (List UInt8)) (T : List Tm) : Prop where
  pl : BuPl ps k q wd (T.map Tm.nd)
  mem : TbOk w B A c T
theorem BuAt.len {ps : List (List UInt8)} {k q : Nat} {w : World} {B : Nat} {A : Option Addr} {c : Nat} {wd : List (List UInt8)} {T : List Tm} (h : BuAt ps k q w B A c wd T) : T.length ≤ 1 + 20 * k + q ∧ wd.length = T.length ∧ 0 < T.length := by
  have h1 := h.pl.cnt
  have h2 := h.pl.ok.len
  have h3 := il_lt h.pl.ok.root
  rw [List.length_map] at h1 h2
  exact ⟨h1, h2.symm, by omega⟩
theorem BuAt.next {ps : List (List UInt8)} {k q : Nat} {w9 w7 : World} {B : Nat} {ad : Addr} {c : Nat} {wd : List (List UInt8)} {T T1 : List Tm} {i : Nat} {nx : List (UInt8 × Nat)} {fl : Nat} {en : Int} {u : List UInt8} {b : UInt8} {A7 : Option Addr} {c7 : Nat}
    (hp : BuPl ps (k := k) (q + 1) (wd ++ [u ++ [b]]) ((T.map Tm.nd).set i ⟨nx ++ [(b, (T.map Tm.nd).length)], fl, en⟩ ++ [⟨[], 0, -1⟩])) (hl : T1.length = T.length) (hm : T1.map Tm.nd = (T.map Tm.nd).set i ⟨nx ++ [(b, T.length)], fl, en⟩)
    (ht : TbOk w9 B (some ad) c T1) (ho : OwnO w7 B 72 3 (.slice A7 (T.length + 1) c7) (T.length + 1) (tmCells T1 ++ [.slice none 0 0, .int .i64 0, .int .i64 (-1)])) (hg : w9.grownBy w7 (Value.slice (some ad) T.length c).ownBlock) :
    BuAt ps k (q + 1) w7 B A7 c7 (wd ++ [u ++ [b]]) (T1 ++ [⟨none, 0, [], 0, -1⟩]) := by
  refine ⟨?_, ht.push (w' := w7) ?_ ?_⟩
  · rw [List.map_append, hm]
    rw [List.length_map] at hp
    exact hp
  · rw [hl, tmCells_append]; exact ho
  · rw [hl]; exact hg
set_option maxRecDepth 100000 in
set_option maxHeartbeats 16000000 in
theorem buildA_any (ps : List (List UInt8)) (A0 : Option Addr) (n c0 B0 : Nat) (w : World) (hr : Rd w B0 1 A0 n (strCells ps)) (hB0 : B0 ≤ w.heap.size) (hn : n ≤ 10) (hps : ∀ p ∈ ps, p.length ≤ 20) (hnd : ps.Nodup) :
    Calls Try.prog 48 #[.slice A0 n c0] w fun e w' => ∃ T wd A c, e = .returned (.slice A T.length c) ∧ TbOk w' w.heap.size A c T ∧ TrOk wd (T.map Tm.nd) ∧ EnOk ps n wd (T.map Tm.nd) ∧ (∀ i, FlOk wd (T.map Tm.nd) i) ∧ (∀ p ∈ ps, p ∈ wd) ∧ T.length ≤ 201 ∧ Below w.heap.size w w' := by
  obtain ⟨i0, hi0, hz0, hz1, hz2⟩ := info_parts info_node
  obtain ⟨j0, hj0, hy0, hy1, hy2⟩ := info_parts info_edge
  obtain ⟨l0, hl0, hv0, hv1, hv2⟩ := info_parts info_int
  have hpl : ps.length = n := by have := hr.1; simpa [strCells] using this
  have HR := Lib.hid hr
  have HPL := Lib.hid hpl
  have HPS := Lib.hid hps
  have HND := Lib.hid hnd
  clear hr hpl hps hnd
  have hcv := fun W s => Lib.run_convert_string_bytes (P := Try.prog) W 9 68 5 s Try.underlying9 Try.underlying68 Try.underlying5
  have HS : Hid (BuAt ps 0 0 (w.alloc (.cells #[.slice none 0 0, .int .i64 0, .int .i64 (-1)] 72)) w.heap.size (some ⟨w.heap.size, 0, none⟩) 1 [[]] [⟨none, 0, [], 0, -1⟩]) := by
    refine ⟨BuPl.start, ⟨⟨rfl, .inr ⟨w.heap.size, 0, 1, #[.slice none 0 0, .int .i64 0, .int .i64 (-1)], rfl, Nat.le_refl _, heap_alloc_new w _, Nat.le_refl _, by decide, Nat.le_refl _, rfl⟩⟩, ?_, ?_⟩⟩
    · intro x hx
      rw [List.mem_singleton] at hx; subst hx
      exact OwnO.nil_
    · intro i j x y hij h1 h2
      have e1 := il_lt h1
      have e2 := il_lt h2
      simp at e1 e2
      omega
  go_enter Try.func48, Try.ntmps48
  go_wp2_with fail
  go_loopw [3, 18] (fun lv kv wr => ∃ (k : Nat) (T : List Tm) (wd : List (List UInt8)) (A : Option Addr) (c : Nat), k ≤ n ∧ kv = .int .i64 (k : Int) ∧ lv = .slice A T.length c ∧ BuAt ps k 0 wr w.heap.size A c wd T ∧ Below w.heap.size w wr) (fun _ kv _ => n - (intOf kv).toNat)
  case atStart => exact ⟨0, [⟨none, 0, [], 0, -1⟩], [[]], some ⟨w.heap.size, 0, none⟩, 1, Nat.zero_le _, rfl, rfl, HS.out, (by repeat (first | exact Below.refl _ _ | assumption | refine Below.alloc ?_ (by first | exact Nat.le_refl _ | assumption | omega | (simp <;> omega)) _ | refine Below.setCell ?_ (by first | exact Nat.le_refl _ | assumption | omega | (simp <;> omega)) _ | refine Below.drew ?_ | refine below_drewN ?_ _))⟩
  case round =>
    clear HS
    obtain ⟨k, T, wd, A, c, hk, rfl, rfl, HB, hb⟩ := hrel
    have hbs := hb.size
    by_cases hlt : k < n
    · have g1 : decide ((k : Int) < (n : Int)) = true := decide_eq_true (by omega)
      have g1' : decide (k < n) = true := decide_eq_true hlt
      obtain ⟨ad, u, rfl, hab, hu, cc⟩ := (HR.out.below (hb.mono hB0)).at_ hlt
      obtain ⟨p, hp, rfl⟩ : ∃ p, ps[k]? = some p ∧ u = .string (S p) := by
        rw [strCells, List.getElem?_map] at hu
        cases hq : ps[k]? with
        | none => rw [hq] at hu; cases hu
        | some p => rw [hq] at hu; injection hu with hu; exact ⟨p, rfl, hu.symm⟩
      have hp20 := HPS.out p (List.mem_of_getElem? hp)
      have HP := Lib.hid hp
      have HSZ : Hid ((S p).size = p.length) := S_size p
      clear hu hp
      have hcvp := fun W => hcv W (S p)
      have hby := ByAt.new_ wr (S p)
      rw [L_S] at hby
      have hbw := bytesWorld_below wr 5 (S p)
      have HB1 := Lib.hid (show BuAt ps k 0 (Lib.bytesWorld wr 5 (S p)) w.heap.size A c wd T from ⟨HB.pl, HB.mem.below hbw⟩)
      have hb1 := hb.trans (hbw.mono hbs)
      have hsz : (S p).size ≤ 20 := by rw [HSZ.out]; exact hp20
      have HBY := Lib.hid hby
      clear HB hby
      go_wp2_with fail
      clear hcvp hcv
      generalize Lib.bytesWorld wr 5 (S p) = w1 at *
      generalize wr.heap.size = gb at *
      have HU0 : Hid (wd[0]? = some (p.take 0)) := by rw [Hid, List.take_zero]; exact HB1.out.pl.ok.root
      go_loopw [3, 6, 26] (fun lv av qv wq => ∃ (q : Nat) (T : List Tm) (wd : List (List UInt8)) (A : Option Addr) (c i : Nat), q ≤ p.length ∧ qv = .int .i64 (q : Int) ∧ lv = .slice A T.length c ∧ av = .int .i64 (i : Int) ∧ Hid (wd[i]? = some (p.take q)) ∧ BuAt ps k q wq w.heap.size A c wd T ∧ ByAt wq gb p ∧ Below w.heap.size w wq) (fun _ _ qv _ => (S p).size - (intOf qv).toNat)
      case atStart => exact ⟨0, T, wd, A, c, 0, Nat.zero_le _, rfl, rfl, rfl, HU0.out, HB1.out, HBY.out, hb1⟩
      case round =>
        clear HU0 HB1 HBY hb1 hb hbs hbw
        obtain ⟨q, T, wd, A, c, i, hq, rfl, rfl, rfl, HU, HB, hby, hb⟩ := hrel
        have hbs := hb.size
        obtain ⟨hT1, hT2, hT3⟩ := HB.len
        have hiT : i < T.length := by rw [← hT2]; exact il_lt HU.out
        have hxi : T[i]? = some T[i] := List.getElem?_eq_getElem hiT
        obtain ⟨adr, _, rfl, hadw, t0, t1, t2⟩ := tm_at HB.mem.rd.row hiT
        have HND1 : Hid ((T.map Tm.nd)[i]? = some (T[i]).nd) := nd_at hiT
        have hnx := snd_len HB.pl.ok HND1.out HU.out
        rw [List.length_map] at hnx
        have hnrd := HB.mem.rd.nxs _ (List.getElem_mem hiT)
        by_cases hlq : q < p.length
        · have g2 : decide ((q : Int) < ((S p).size : Int)) = true := decide_eq_true (by rw [HSZ.out]; omega)
          have g2' : decide (q < (S p).size) = true := decide_eq_true (by rw [HSZ.out]; omega)
          have cb := hby.cell hlq
          have HTK : Hid (p.take (q + 1) = p.take q ++ [p.getD q 0]) := by
            rw [Hid, List.take_add_one, List.getElem?_eq_getElem hlq, List.getD_eq_getElem?_getD, List.getElem?_eq_getElem hlq]; rfl
          generalize p.getD q 0 = b at *
          have HLD := Lib.hid (HB.pl.ok.lead HND1.out HU.out b)
          have hxm := HB.mem.mem _ (List.getElem_mem hiT)
          have hnl : (T[i]).nx.length ≤ 1000 := by have : (T[i]).nd.nx = (T[i]).nx := rfl; rw [this] at hnx; omega
          generalize T[i] = x at *
          obtain ⟨xA, xc, nx, fl, en⟩ := x
          have HCL := Lib.hid (lead_any nx xA xc fl en b _ wr hnrd (Nat.le_refl _) (by simp only at hnl; omega))
          have HLD2 : Hid ((leadN nx b = 0 ∧ p.take q ++ [b] ∉ wd) ∨ (0 < leadN nx b ∧ wd[leadN nx b]? = some (p.take q ++ [b]))) := HLD.out
          have HXI := Lib.hid hxi
          have HXM := Lib.hid hxm
          have HBQ := Lib.hid HB
          have HBYQ := Lib.hid hby
          clear HLD hxi hxm HB hby hnrd hnx
          go_wp2_with fail
          refine HCL.out.mono ?_
          rintro e w2 ⟨rfl, hb2⟩
          have hbb2 := bthen hb hb2
          have hb2s := hb2.size
          have t0' := (hb2.cell (p := adr.add (i * 3)) (by rw [blk_add]; exact hadw)).trans t0
          have HBA := Lib.hid (show BuAt ps k q w2 w.heap.size (some adr) c wd T from ⟨HBQ.out.pl, HBQ.out.mem.below hb2⟩)
          have HBYA := Lib.hid (HBYQ.out.below hb2)
          have HXA := Lib.hid (OwnO.below HXM.out hb2)
          clear HBQ HBYQ HXM HCL
          generalize leadN nx b = j at *
          by_cases hj : j = 0
          · subst hj
            have HNO : Hid (p.take q ++ [b] ∉ wd) := by
              rcases HLD2.out with ⟨_, h⟩ | ⟨h, _⟩
              · exact h
              · omega
            clear HLD2
            have hbA : Below w2.heap.size w2 (w2.alloc (.cells #[.int .u8 (b.toNat : Int), .int .i64 (T.length : Int)] 96)) := (Below.refl _ _).alloc (Nat.le_refl _) _
            have HTA := Lib.hid (HBA.out.mem.below hbA)
            have hown : OwnO (w2.alloc (.cells #[.int .u8 (b.toNat : Int), .int .i64 (T.length : Int)] 96)) w.heap.size 96 2 (.slice xA nx.length xc) nx.length (egCells nx) := OwnO.below HXA.out hbA
            have hbyA := HBYA.out.below hbA
            have hbbA := bthen hbb2 hbA
            have hszA : (w2.alloc (.cells #[.int .u8 (b.toNat : Int), .int .i64 (T.length : Int)] 96)).heap.size = w2.heap.size + 1 := by simp
            have HGR := Lib.hid (HBA.out.pl.grow HND1.out HU.out HNO.out)
            have tok1 : True := trivial
            go_wp2_with (first
              | (at_builtin; have _t := tok1; go_must (refine wpList_appO rfl _ _ _ rfl w.heap.size 96 j0 _ 2 16 Try.underlying70 hj0 hy0 hy1 hy2 rfl (by omega) (.slice xA nx.length xc) nx.length (egCells nx) rfl hown ⟨w2.heap.size, 0, none⟩ 1 1 [.int .u8 (b.toNat : Int), .int .i64 (T.length : Int)] rfl rfl (cells_new2 _ _ _ _) (by simp [Value.oneCell']) (by omega) (by omega) (by rw [hszA]; omega) ?_); intro v8 w8 hO8 hg8 hb8 hn8; obtain ⟨A8, c8, rfl, _, _, _⟩ := hO8.form; obtain ⟨hE2, hE3, T1, hl1, hm1, hE1, hby9, hb9⟩ := TbOk.edge2 HTA.out HXI.out (e := (b, T.length)) hO8 hg8 hn8 hbyA hbbA hb8; have HM1 := Lib.hid hm1; have HL1 := Lib.hid hl1; have hrow9 := (hE1.below (w' := (w8.setCell (adr.add (i * 3)) (Value.slice A8 (nx.length + 1) c8)).alloc (.cells #[.slice none 0 0, .int .i64 0, .int .i64 (-1)] 72)) ((Below.refl _ _).alloc (Nat.le_refl _) _)).row; rw [hl1] at hrow9; have HE1 := Lib.hid hE1; have HBY9 := Lib.hid hby9; have HB9 := Lib.hid hb9; have hs9 : w.heap.size ≤ ((w8.setCell (adr.add (i * 3)) (Value.slice A8 (nx.length + 1) c8)).alloc (.cells #[.slice none 0 0, .int .i64 0, .int .i64 (-1)] 72)).heap.size := Nat.le_trans hb9.size ((Below.refl _ _).alloc (Nat.le_refl _) _ : Below _ _ _).size; have hnew9 := cells_new3 (w8.setCell (adr.add (i * 3)) (Value.slice A8 (nx.length + 1) c8)) (.slice none 0 0) (.int .i64 0) (.int .i64 (-1)) 72; rw [show (w8.setCell (adr.add (i * 3)) (Value.slice A8 (nx.length + 1) c8)).heap.size = w8.heap.size by simp] at hnew9; clear hE1 hm1 hl1 hO8 hg8 hb8 hn8 hby9 hb9 hbyA hbbA tok1)
              | (at_builtin; go_must (refine wpList_appO rfl _ _ _ rfl w.heap.size 72 i0 _ 3 40 Try.underlying66 hi0 hz0 hz1 hz2 rfl (by omega) (.slice (some adr) T.length c) T.length (tmCells T1) rfl hrow9 ⟨w8.heap.size, 0, none⟩ 1 1 [.slice none 0 0, .int .i64 0, .int .i64 (-1)] rfl rfl hnew9 (by simp [Value.oneCell']) (by omega) (by omega) hs9 ?_); intro v7 w7 hO7 hg7 hb7 _hn7))
            obtain ⟨A7, c7, rfl, _, _, _⟩ := hO7.form
            have hbA9 : Below (w8.setCell (adr.add (i * 3)) (Value.slice A8 (nx.length + 1) c8)).heap.size (w8.setCell (adr.add (i * 3)) (Value.slice A8 (nx.length + 1) c8)) ((w8.setCell (adr.add (i * 3)) (Value.slice A8 (nx.length + 1) c8)).alloc (.cells #[.slice none 0 0, .int .i64 0, .int .i64 (-1)] 72)) := (Below.refl _ _).alloc (Nat.le_refl _) _
            have HN : Hid (BuAt ps k (q + 1) w7 w.heap.size A7 c7 (wd ++ [p.take q ++ [b]]) (T1 ++ [⟨none, 0, [], 0, -1⟩])) := BuAt.next HGR.out HL1.out HM1.out (HE1.out.below hbA9) hO7 hg7
            have hby7 := (HBY9.out.below hbA9).kept hg7 ((HBY9.out.below hbA9).ne_own hrow9 (by decide))
            have hbb7 : Below w.heap.size w w7 := (bthen HB9.out hbA9).trans hb7
            have HU7 : Hid ((wd ++ [p.take q ++ [b]])[T.length]? = some (p.take (q + 1))) := by
              rw [Hid, HTK.out, ← hT2, List.getElem?_append_right (Nat.le_refl _), Nat.sub_self]; rfl
            have HL7 : Hid (T1.length + 1 = (T1 ++ [(⟨none, 0, [], 0, -1⟩ : Tm)]).length) := by rw [Hid, List.length_append]; rfl
            go_roundw
            case rel => exact ⟨q + 1, _, _, A7, c7, T.length, by omega, by go_num, by rw [← HL7.out, HL1.out], rfl, HU7.out, HN.out, hby7, hbb7⟩
            case measure => simp [intOf]; have := HSZ.out; omega
          · have g3 : ((j : Int) == 0) = false := by rw [beq_eq_false_iff_ne]; omega
            have g3' : (j == 0) = false := by rw [beq_eq_false_iff_ne]; exact hj
            have HU7 : Hid (wd[j]? = some (p.take (q + 1))) := by
              rcases HLD2.out with ⟨h, _⟩ | ⟨_, h⟩
              · exact absurd h hj
              · rw [Hid, HTK.out]; exact h
            clear HLD2
            go_wp2_with fail
            go_roundw
            case rel => exact ⟨q + 1, T, wd, some adr, c, j, by omega, by go_num, rfl, rfl, HU7.out, ⟨HBA.out.pl.keep, HBA.out.mem⟩, HBYA.out, hbb2⟩
            case measure => simp [intOf]; have := HSZ.out; omega
        · have g2 : decide ((q : Int) < ((S p).size : Int)) = false := decide_eq_false (by rw [HSZ.out]; omega)
          have g2' : decide (q < (S p).size) = false := decide_eq_false (by rw [HSZ.out]; omega)
          have hqe : q = p.length := by omega
          subst hqe
          have hu : wd[i]? = some p := by have := HU.out; rwa [List.take_length] at this
          have HMK := Lib.hid (HB.pl.mark hp20 HND1.out hu HP.out HND.out)
          have hrow := HB.mem.row.lt adr.block rfl
          generalize T[i] = x at *
          obtain ⟨xA, xc, nx, fl, en⟩ := x
          have hN := HB.mem.num hxi (y := ⟨xA, xc, nx, fl, (k : Int)⟩) (j := 2) (by omega) (u := .int .i64 (k : Int)) rfl rfl rfl rfl
          rw [← add_add] at hN
          obtain ⟨hN1, hN2⟩ := hN
          have f2 : wr.frozen? ⟨(adr.add (i * 3)).block, (adr.add (i * 3)).off + 2, none⟩ = false := hN2
          have HN1 : Hid (TbOk (wr.setCell ⟨(adr.add (i * 3)).block, (adr.add (i * 3)).off + 2, none⟩ (.int .i64 (k : Int))) w.heap.size (some adr) c (T.set i ⟨xA, xc, nx, fl, (k : Int)⟩)) := hN1
          have HM : Hid ((T.set i ⟨xA, xc, nx, fl, (k : Int)⟩).map Tm.nd = (T.map Tm.nd).set i ⟨nx, fl, (k : Int)⟩) := map_set_nd _ _ _
          have hb9 : Below w.heap.size w (wr.setCell ⟨(adr.add (i * 3)).block, (adr.add (i * 3)).off + 2, none⟩ (.int .i64 (k : Int))) := hb.setCell (p := ⟨(adr.add (i * 3)).block, (adr.add (i * 3)).off + 2, none⟩) (by rw [blk_add]; exact hrow.1) _
          clear hN1 hN2 HB hby hu hnrd hnx hxi HU
          go_wp2_with fail
          go_roundw
          case rel => exact ⟨k + 1, _, wd, some adr, c, by omega, by go_num, by rw [List.length_set], ⟨by rw [HM.out]; exact HMK.out, HN1.out⟩, hb9⟩
          case measure => simp [intOf]; omega
    · have g1 : decide ((k : Int) < (n : Int)) = false := decide_eq_false (by omega)
      have g1' : decide (k < n) = false := decide_eq_false hlt
      have hke : k = n := by omega
      subst hke
      clear hcv
      obtain ⟨hT1, hT2, hT3⟩ := HB.len
      obtain ⟨adl, _, rfl, _, _⟩ := tm_at HB.mem.rd.row hT3
      obtain ⟨m, hm⟩ : ∃ m, T.length = m := ⟨_, rfl⟩
      have HQ : Hid (BfAt ps k wd w (wr.alloc (.cells #[.int .i64 0] 3)) w.heap.size adl c m [0] 0 [] 0 T (some ⟨wr.heap.size, 0, none⟩) 1) :=
        ⟨BfOk.start HB.pl.ok HB.pl.fl, HB.pl.ok, HB.pl.en, hm, ⟨rfl, .inr ⟨wr.heap.size, 0, 1, #[.int .i64 0], rfl, hbs, heap_alloc_new wr _, Nat.le_refl _, by decide, Nat.le_refl _, rfl⟩⟩, HB.mem.below ((Below.refl _ _).alloc (Nat.le_refl _) _), hb.alloc hbs _, Nat.le_trans hbs (by simp), Nat.zero_le _⟩
      have HHAS := Lib.hid HB.pl.has
      have hm201 : m ≤ 201 := by omega
      rw [hm] at hT3
      have HME := Lib.hid hm
      clear HB hT1 hT2 hb hbs HR
      obtain ⟨tl, htl⟩ : ∃ tl, Value.slice (some adl) T.length c = tl := ⟨_, rfl⟩
      rw [hm] at htl
      go_wp2_with fail
      rw [hm]
      clear hm htl
      go_loopg [10] m (fun g tv wq => ∃ (E : List Nat) (h z : Nat) (T1 : List Tm) (At : Option Addr) (ct : Nat), Hid (g = m - h) ∧ Hid (z = E.length - h) ∧ tv = .slice At z ct ∧ Hid (BfAt ps k wd w wq w.heap.size adl c m E h [] 0 T1 At ct))
      case atStart => exact ⟨[0], 0, 1, T, _, 1, rfl, rfl, rfl, HQ.out⟩
      case round =>
        clear HQ HME
        obtain ⟨E, h, z, T1, At, ct, HG, HZ, rfl, HF⟩ := hrel
        have hcnt := HF.out.cnt
        by_cases hz : 0 < z
        · have g1 : decide ((0 : Int) < (z : Int)) = true := decide_eq_true (by omega)
          have g1' : decide (0 < z) = true := decide_eq_true hz
          have hlt : h < E.length := by have := HZ.out; omega
          obtain ⟨ta, rfl, c0⟩ := HF.out.head hlt
          have HA : Hid (E[h]? = some E[h]) := List.getElem?_eq_getElem hlt
          have haT := HF.out.lt (List.getElem_mem hlt)
          generalize E[h] = a at *
          obtain ⟨tad, hl2, eTA, hadw, t0, _, _⟩ := tm_at HF.out.tb.rd.row haT
          cases eTA
          have HXI : Hid (T1[a]? = some T1[a]) := List.getElem?_eq_getElem haT
          generalize T1[a] = x at *
          obtain ⟨xA, xc, nx, fl, en⟩ := x
          obtain ⟨u, hu⟩ : ∃ u, wd[a]? = some u := ⟨_, List.getElem?_eq_getElem (by rw [hcnt.2, ← HF.out.len]; exact haT)⟩
          have HU := Lib.hid hu
          have hnl : nx.length ≤ 201 := by
            have hnd : (T1.map Tm.nd)[a]? = some ⟨nx, fl, en⟩ := by rw [List.getElem?_map, HXI.out]; rfl
            have h1 : nx.length ≤ (T1.map Tm.nd).length := snd_len HF.out.ok hnd hu
            rw [List.length_map, HF.out.len] at h1
            omega
          have HF2 := Lib.hid (HF.out.enter nx)
          have HX2 := Lib.hid (And.intro HA.out HXI.out)
          have hcm := hcnt.1
          have ham : a < m := by rw [← HF.out.len]; exact haT
          clear hu hcnt HXI HA hlt haT hl2
          go_wp2_with fail
          go_loopw [10, 81] (fun tv qv wq => ∃ (q : Nat) (E : List Nat) (z : Nat) (T1 : List Tm) (At : Option Addr) (ct : Nat), q ≤ nx.length ∧ qv = .int .i64 (q : Int) ∧ Hid (z = E.length - h) ∧ tv = .slice At z ct ∧ Hid (BfAt ps k wd w wq w.heap.size adl c m E h nx q T1 At ct) ∧ Hid (E[h]? = some a ∧ T1[a]? = some ⟨xA, xc, nx, fl, en⟩)) (fun _ qv _ => nx.length - (intOf qv).toNat)
          case atStart => exact ⟨0, E, z, T1, some ta, ct, Nat.zero_le _, rfl, HZ.out, rfl, HF2.out, HX2.out⟩
          case round =>
            clear HF HF2 HX2 HZ hcm t0 c0 g1 g1' hz
            obtain ⟨q, E, z, T1, At, ct, hq, rfl, HZ, rfl, HF, HX⟩ := hrel
            have hnr := HF.out.tb.rd.nxs _ (List.mem_of_getElem? HX.out.2)
            have hcnt := HF.out.cnt
            have hhl := il_lt HX.out.1
            have hz201 : z ≤ 201 := by have := HZ.out; omega
            have hws := HF.out.bs
            by_cases hlq : q < nx.length
            · have g2 : decide ((q : Int) < (nx.length : Int)) = true := decide_eq_true (by omega)
              have g2' : decide (q < nx.length) = true := decide_eq_true hlq
              obtain ⟨xad, hl3, eXA, hxb, e0, e1⟩ := eg_at hnr hlq
              have eXA : xA = some xad := eXA
              subst eXA
              have HJ : Hid (nx[q]? = some nx[q]) := List.getElem?_eq_getElem hlq
              generalize nx[q] = bj at *
              obtain ⟨b, j⟩ := bj
              have e0 : wr.cell? (xad.add (q * 2)) = some (.int .u8 (b.toNat : Int)) := e0
              have e1 : wr.cell? ⟨(xad.add (q * 2)).block, (xad.add (q * 2)).off + 1, none⟩ = some (.int .i64 (j : Int)) := e1
              have hbC : Below wr.heap.size wr ((wr.alloc (.cells #[.int .u8 (b.toNat : Int), .int .i64 (j : Int)] 96)).alloc (.cells #[.int .i64 (j : Int)] 3)) := ((Below.refl _ _).alloc (Nat.le_refl _) _).alloc (by simp) _
              have hboxC : Blk ((wr.alloc (.cells #[.int .u8 (b.toNat : Int), .int .i64 (j : Int)] 96)).alloc (.cells #[.int .i64 (j : Int)] 3)) wr.heap.size 96 #[.int .u8 (b.toNat : Int), .int .i64 (j : Int)] := (Blk.new_ wr _ _).alloc _
              have HFC := Lib.hid (HF.out.below hbC)
              have hquC := HFC.out.qu
              rw [← HZ.out] at hquC
              have HQLT := Lib.hid HF.out.qu.lt
              have hszC : w.heap.size ≤ ((wr.alloc (.cells #[.int .u8 (b.toNat : Int), .int .i64 (j : Int)] 96)).alloc (.cells #[.int .i64 (j : Int)] 3)).heap.size := HFC.out.bs
              have hnewC : ∀ i u, ([.int .i64 (j : Int)] : List Value)[i]? = some u → ((wr.alloc (.cells #[.int .u8 (b.toNat : Int), .int .i64 (j : Int)] 96)).alloc (.cells #[.int .i64 (j : Int)] 3)).cell? (Addr.add ⟨wr.heap.size + 1, 0, none⟩ i) = some u := by
                have h := cell_one_new (wr.alloc (.cells #[.int .u8 (b.toNat : Int), .int .i64 (j : Int)] 96)) (.int .i64 (j : Int)) 3
                rw [show (wr.alloc (.cells #[.int .u8 (b.toNat : Int), .int .i64 (j : Int)] 96)).heap.size = wr.heap.size + 1 by simp] at h
                exact h
              clear hbC hnr
              by_cases ha0 : a = 0
              · have g3 : decide ((0 : Int) < (a : Int)) = false := decide_eq_false (by omega)
                have g3' : decide (0 < a) = false := decide_eq_false (by omega)
                have HA0 := Lib.hid ha0
                clear ha0
                go_wp2_with (at_builtin; go_must (refine wpList_appO rfl _ _ _ rfl w.heap.size 3 l0 _ 1 8 Try.underlying22 hl0 hv0 hv1 hv2 rfl (by omega) (.slice At z ct) z (niC (E.drop h)) rfl hquC ⟨wr.heap.size + 1, 0, none⟩ 1 1 [.int .i64 (j : Int)] rfl rfl hnewC (by simp [Value.oneCell']) (by omega) (by omega) hszC ?_); intro v8 w8 hO8 hg8 hb8 _hn8)
                obtain ⟨A8, c8, rfl, hq8, ht8, hb08⟩ := qu_push HFC.out (j := j) (by rw [← HZ.out]; exact hO8) (by rw [← HZ.out]; exact hg8) hb8
                have HBF := Lib.hid (BfAt.root HFC.out (by rw [← HA0.out]; exact HX.out.1) (by rw [← HA0.out]; exact HX.out.2) rfl HJ.out)
                have HN : Hid (BfAt ps k wd w w8 w.heap.size adl c m (E ++ [j]) h nx (q + 1) T1 A8 c8) :=
                  ⟨HBF.out, HFC.out.ok, HFC.out.en, HFC.out.len, hq8, ht8, hb08, Nat.le_trans hszC hb8.size, by rw [List.length_append]; omega⟩
                have HX3 : Hid ((E ++ [j])[h]? = some a ∧ T1[a]? = some ⟨some xad, xc, nx, fl, en⟩) := ⟨by rw [List.getElem?_append_left hhl]; exact HX.out.1, HX.out.2⟩
                go_roundw
                case rel => exact ⟨q + 1, E ++ [j], _, T1, A8, c8, by omega, by go_num, rfl, rfl, HN.out, HX3.out⟩
                case measure => simp [intOf]; omega
              · have g3 : decide ((0 : Int) < (a : Int)) = true := decide_eq_true (by omega)
                have g3' : decide (0 < a) = true := decide_eq_true (by omega)
                have hu0 : u ≠ [] := by
                  intro e
                  have h1 := HU.out
                  rw [e] at h1
                  exact ha0 (HFC.out.ok.zero h1)
                have HU0 := Lib.hid hu0
                clear hu0
                go_wp2_with (at_builtin; go_must (refine wpList_appO rfl _ _ _ rfl w.heap.size 3 l0 _ 1 8 Try.underlying22 hl0 hv0 hv1 hv2 rfl (by omega) (.slice At z ct) z (niC (E.drop h)) rfl hquC ⟨wr.heap.size + 1, 0, none⟩ 1 1 [.int .i64 (j : Int)] rfl rfl hnewC (by simp [Value.oneCell']) (by omega) (by omega) hszC ?_); intro v8 w8 hO8 hg8 hb8 _hn8)
                obtain ⟨A8, c8, rfl, hq8, ht8, hb08⟩ := qu_push HFC.out (j := j) (by rw [← HZ.out]; exact hO8) (by rw [← HZ.out]; exact hg8) hb8
                have hbox8 := hboxC.grown hg8 (by intro e; have := HQLT.out wr.heap.size (by rw [← HZ.out]; exact e.symm); omega)
                have b0 := hbox8.cell0
                have b1 := hbox8.cell1
                have haT := il_lt HX.out.2
                obtain ⟨_, _, eT, _, _, q1, _⟩ := tm_at ht8.rd.row haT
                cases eT
                rw [show T1[a] = ⟨some xad, xc, nx, fl, en⟩ from (List.getElem?_eq_some_iff.1 HX.out.2).2] at q1
                have q1 : w8.cell? ⟨(adl.add (a * 3)).block, (adl.add (a * 3)).off + 1, none⟩ = some (.int .i64 (fl : Int)) := q1
                have hsz8 := hb8.size
                have hmem : a ∈ E := List.mem_of_getElem? HX.out.1
                have hndx : (T1.map Tm.nd)[a]? = some ⟨nx, fl, en⟩ := by rw [List.getElem?_map, HX.out.2]; rfl
                have hfl : wd[fl]? = some (lsE wd u.tail) := HFC.out.bf.fl a hmem _ u hndx HU.out HU0.out
                have hul : (lsE wd u.tail).length ≤ u.length := by
                  have h1 := (lsE_suf (wd := wd) u.tail).length_le
                  rw [List.length_tail] at h1
                  omega
                have HST := Lib.hid (step_any T1 wd (some adl) c fl (lsE wd u.tail) b w8.heap.size w8.drew (show TrRd w8.drew w8.heap.size (some adl) T1 from ⟨ht8.rd.row, ht8.rd.nxs⟩) (Nat.le_refl _) HFC.out.ok (fun x hx => by have := nx_all HFC.out.ok x hx; rw [HFC.out.len] at this; omega) hfl (fun i v hv hl => HFC.out.bf.low HFC.out.ok HX.out.1 HU.out hv (by omega)))
                rw [HFC.out.len] at HST
                have hjT : j < T1.length := by
                  have := (HFC.out.ok.bound hndx HU.out (c := b) (j := j) (List.mem_of_getElem? HJ.out)).2
                  rwa [List.length_map] at this
                have hjm : j < m := by rw [← HFC.out.len]; exact hjT
                have HY : Hid (T1[j]? = some T1[j]) := List.getElem?_eq_getElem hjT
                have HDP := Lib.hid (BfAt.deep HFC.out HX.out.1 HX.out.2 HU.out HU0.out rfl HJ.out HY.out)
                have HAJ : Hid (a ≠ j) := fun e => HFC.out.bf.new HFC.out.ok HX.out.1 hndx HU.out rfl (HFC.out.ok.nxnd _ (List.mem_of_getElem? hndx)) HJ.out (e ▸ hmem)
                have HQ8 := Lib.hid hq8
                have HT8 := Lib.hid ht8
                have HB8 := Lib.hid hb08
                generalize wd.idxOf (lsE wd (lsE wd u.tail ++ [b])) = f at *
                generalize T1[j] = y at *
                obtain ⟨yA, yc, ynx, yfl, yen⟩ := y
                have hw8 : w.heap.size ≤ w8.heap.size := Nat.le_trans hszC hb8.size
                have HLEN : Hid (T1.length = m) := HFC.out.len
                have hwr8 : wr.heap.size < w8.heap.size := by simp only [World.size_alloc] at hsz8; omega
                have had8 := HT8.out.row.lt adl.block rfl
                clear hq8 ht8 hb08 hO8 _hn8 hg8 hb8 hndx hfl hul hmem hbox8 hboxC HFC hszC hnewC HF hquC haT hjT hsz8
                obtain ⟨F1, hFd⟩ : ∃ F : World → Prop, F = fun w' => w'.cell? ⟨wr.heap.size, 0, none⟩ = some (.int .u8 (b.toNat : Int)) ∧ w'.cell? ⟨wr.heap.size, 1, none⟩ = some (.int .i64 (j : Int)) ∧ w'.cell? ⟨(adl.add (a * 3)).block, (adl.add (a * 3)).off + 1, none⟩ = some (.int .i64 (fl : Int)) := ⟨_, rfl⟩
                have HF1 := Lib.hid hFd
                clear hFd
                have hcell10 : ∀ p' : Wof F1, p'.w.cell? ⟨wr.heap.size, 0, none⟩ = some (.int .u8 (b.toNat : Int)) := fun ⟨x, hx⟩ => by rw [HF1.out] at hx; exact hx.1
                have hcell11 : ∀ p' : Wof F1, p'.w.cell? ⟨wr.heap.size, 1, none⟩ = some (.int .i64 (j : Int)) := fun ⟨x, hx⟩ => by rw [HF1.out] at hx; exact hx.2.1
                have hcell12 : ∀ p' : Wof F1, p'.w.cell? ⟨(adl.add (a * 3)).block, (adl.add (a * 3)).off + 1, none⟩ = some (.int .i64 (fl : Int)) := fun ⟨x, hx⟩ => by rw [HF1.out] at hx; exact hx.2.2
                refine wp_region_schedZ [(0, true), (1, true), (2, true), (3, true), (4, true), (5, true), (6, true), (7, true), (8, true), (9, true), (10, true), (11, false), (12, true), (13, true)] 14 _ F1 (by kernel_rfl) (by kernel_rfl) rfl (by kernel_rfl) rfl (fun _ _ _ _ _ h => h) (by kernel_rfl) (by rw [HF1.out]; first | trivial | (repeat' apply And.intro) <;> assumption | (simp; done) | (simp [*]; done)) (by rw [HF1.out]; exact fun h => h) ?_
                intro hne1
                simp only [opersOf, List.getElem?_toArray, List.getElem?_cons_succ, List.getElem?_cons_zero]
                repeat (first | (refine wpSched_free rfl ?_; intro K hK; go_big_quiet_op; go_big_quiet_on) | (refine wpSched_wantS _ rfl rfl rfl ?_; intro K hK; go_big_quiet_op; go_big_quiet_on) | (refine wpSched_skipS _ rfl rfl rfl rfl ?_; simp only [Act.put, List.setIfInBounds_toArray, List.set_cons_zero, List.set_cons_succ]) | (refine wpSched_skipU _ rfl rfl rfl ?_; simp only [Act.put, List.setIfInBounds_toArray, List.set_cons_zero, List.set_cons_succ]))
                refine wpSched_other ?_
                go_wp2_with fail
                refine HST.out.mono ?_
                rintro e w9 ⟨rfl, hb9⟩
                have hb89 : Below w8.heap.size w8 w9 := (Below.drew (Below.refl _ _)).trans hb9
                have b0' := (hb89.cell (p := ⟨wr.heap.size, 0, none⟩) hwr8).trans b0
                have b1' := (hb89.cell (p := ⟨wr.heap.size, 1, none⟩) hwr8).trans b1
                have q1' := (hb89.cell (p := ⟨(adl.add (a * 3)).block, (adl.add (a * 3)).off + 1, none⟩) (by rw [blk_add]; exact had8.2)).trans q1
                go_wp2_with fail
                refine sched_back (by rw [HF1.out]; exact ⟨b0', b1', q1'⟩) ?_
                repeat (first | (refine wpSched_free rfl ?_; intro K hK; go_big_quiet_op; go_big_quiet_on) | (refine wpSched_wantS _ rfl rfl rfl ?_; intro K hK; go_big_quiet_op; go_big_quiet_on) | (refine wpSched_skipS _ rfl rfl rfl rfl ?_; simp only [Act.put, List.setIfInBounds_toArray, List.set_cons_zero, List.set_cons_succ]) | (refine wpSched_skipU _ rfl rfl rfl ?_; simp only [Act.put, List.setIfInBounds_toArray, List.set_cons_zero, List.set_cons_succ]))
                have ht9 := HT8.out.below hb89
                obtain ⟨_, hj3, eT, _, _, r1, _⟩ := tm_at ht9.rd.row (il_lt HY.out)
                cases eT
                have r1 : w9.cell? ⟨(adl.add (j * 3)).block, (adl.add (j * 3)).off + 1, none⟩ = some (.int .i64 (yfl : Int)) := by
                  rw [show T1[j] = ⟨yA, yc, ynx, yfl, yen⟩ from (List.getElem?_eq_some_iff.1 HY.out).2] at r1
                  exact r1
                have hN := ht9.num HY.out (y := ⟨yA, yc, ynx, f, yen⟩) (j := 1) (by omega) (u := .int .i64 (f : Int)) rfl rfl rfl rfl
                rw [← add_add] at hN
                have r2 : w9.frozen? ⟨(adl.add (j * 3)).block, (adl.add (j * 3)).off + 1, none⟩ = false := hN.2
                have HN1 : Hid (TbOk (w9.setCell ⟨(adl.add (j * 3)).block, (adl.add (j * 3)).off + 1, none⟩ (.int .i64 (f : Int))) w.heap.size (some adl) c (T1.set j ⟨yA, yc, ynx, f, yen⟩)) := hN.1
                have HQ9 : Hid (OwnO (w9.setCell ⟨(adl.add (j * 3)).block, (adl.add (j * 3)).off + 1, none⟩ (.int .i64 (f : Int))) w.heap.size 3 1 (.slice A8 ((E ++ [j]).length - h) c8) ((E ++ [j]).length - h) (niC ((E ++ [j]).drop h))) :=
                  own_kept_set (p := ⟨(adl.add (j * 3)).block, (adl.add (j * 3)).off + 1, none⟩) (HQ8.out.below hb89) (by rw [blk_add]; exact own_ne_2 (HQ8.out.below hb89) ht9.row (by decide)) _
                have HB9 : Hid (Below w.heap.size w (w9.setCell ⟨(adl.add (j * 3)).block, (adl.add (j * 3)).off + 1, none⟩ (.int .i64 (f : Int)))) := (HB8.out.trans (hb89.mono hw8)).setCell (p := ⟨(adl.add (j * 3)).block, (adl.add (j * 3)).off + 1, none⟩) (by rw [blk_add]; exact had8.1) _
                have hw9 : w.heap.size ≤ (w9.setCell ⟨(adl.add (j * 3)).block, (adl.add (j * 3)).off + 1, none⟩ (.int .i64 (f : Int))).heap.size := by rw [World.size_setCell]; exact Nat.le_trans hw8 hb89.size
                have HW9 := Lib.hid hw9
                clear hN ht9 hw9
                refine wpSched_nil ?_
                refine qz_nil ?_
                clear HF1 hcell10 hcell11 hcell12 hne1
                go_wp2_with fail
                have HN : Hid (BfAt ps k wd w (w9.setCell ⟨(adl.add (j * 3)).block, (adl.add (j * 3)).off + 1, none⟩ (.int .i64 (f : Int))) w.heap.size adl c m (E ++ [j]) h nx (q + 1) (T1.set j ⟨yA, yc, ynx, f, yen⟩) A8 c8) :=
                  ⟨by rw [map_set_nd]; exact HDP.out.1, by rw [map_set_nd]; exact HDP.out.2.1, by rw [map_set_nd]; exact HDP.out.2.2, by rw [List.length_set]; exact HLEN.out, HQ9.out, HN1.out, HB9.out, HW9.out, by rw [List.length_append]; omega⟩
                have HX3 : Hid ((E ++ [j])[h]? = some a ∧ (T1.set j ⟨yA, yc, ynx, f, yen⟩)[a]? = some ⟨some xad, xc, nx, fl, en⟩) := ⟨by rw [List.getElem?_append_left hhl]; exact HX.out.1, by rw [List.getElem?_set_ne (Ne.symm HAJ.out)]; exact HX.out.2⟩
                have HZ3 : Hid (E.length + 1 - h = (E ++ [j]).length - h) := by rw [Hid, List.length_append]; rfl
                go_roundw
                case rel => exact ⟨q + 1, E ++ [j], _, _, A8, c8, by omega, by go_num, HZ3.out, rfl, HN.out, HX3.out⟩
                case measure => simp [intOf]; omega
            · have g2 : decide ((q : Int) < (nx.length : Int)) = false := decide_eq_false (by omega)
              have g2' : decide (q < nx.length) = false := decide_eq_false hlq
              obtain ⟨tb, eT, _⟩ := HF.out.head hhl
              subst eT
              have hz1 : 1 ≤ z := by have := HZ.out; omega
              have hlv := HF.out.leave HX.out.1 HX.out.2 HU.out rfl (by omega) (by intro e; cases e)
              have hcut : ∀ W, (Instr.sliceAt 22 (.slice (some tb) z ct) (some (.int .i64 1)) none none).run Try.prog W = .ok (.slice (if ct = 1 then some tb else (some tb).map (·.add (1 * 1))) (z - 1) (ct - 1)) W := fun W => run_behindT Try.underlying22 (by kernel_rfl) (some tb) z ct 1 hz1 W
              obtain ⟨Ac, hAc⟩ : ∃ Ac, (if ct = 1 then some tb else (some tb).map (·.add (1 * 1))) = Ac := ⟨_, rfl⟩
              rw [hAc] at hcut hlv
              have HLV := Lib.hid hlv
              have HZ3 : Hid (z - 1 = E.length - (h + 1)) := by have := HZ.out; rw [Hid]; omega
              have hhm : h < m := by omega
              clear hAc hlv hnr
              go_wp2_with fail
              go_roundg (m - (h + 1))
              case measure => rw [HG.out]; omega
              case rel => exact ⟨E, h + 1, z - 1, T1, Ac, ct - 1, rfl, HZ3.out, rfl, HLV.out⟩
        · have hz0 : z = 0 := by omega
          subst hz0
          have hEh : E.length ≤ h := by have := HZ.out; omega
          have HDN : Hid (∀ i, FlOk wd (T1.map Tm.nd) i) := HF.out.bf.done HF.out.ok hEh
          clear hcnt hEh
          go_wp2_with fail
          go_ret
          exact ⟨T1, wd, some adl, c, by rw [HF.out.len]; rfl, HF.out.tb, HF.out.ok, HF.out.en, HDN.out, fun p hp => by
            obtain ⟨i, hi⟩ := List.getElem?_of_mem hp
            exact HHAS.out i p (by rw [← HPL.out]; exact il_lt hi) hi, by rw [HF.out.len]; exact hm201, HF.out.b⟩
end Go.Proofs.Ytmmamdjbbpeifaa
