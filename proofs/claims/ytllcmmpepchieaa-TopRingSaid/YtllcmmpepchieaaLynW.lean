/- lyndon.Split, lyndon.Is. -/
import Derived.Test.YtllcmmpepchieaaLyn0
import Derived.Test.YtllcmmpepchieaaWordC
import Derived.Test.YtllcmmpepchieaaStrC
import Derived.Test.YtllcmmpepchieaaWord1
namespace Go.Proofs.Ytllcmmpepchieaa
open Go.RowKit
theorem strCells_snoc' (l : List (List UInt8)) (x : List UInt8) : strCells l ++ [.string (S x)] = strCells (l ++ [x]) := by simp [strCells]
theorem SpAt.addW {s : List UInt8} {out : List (List UInt8)} {at_ p : Nat} {U : List UInt8} (h : SpAt s out at_) (hU : (s.drop at_).take p = U) (hw : LyW U) (hn : at_ + p ≤ s.length) (hl : ∀ u, out.getLast? = some u → ¬ u < U) :
    SpAt s (out ++ [U]) (at_ + p) := by
  have hlu : U.length = p := by rw [← hU, List.length_take, List.length_drop]; omega
  have hg : ∀ i, i < p → U.getD i 0 = s.getD (at_ + i) 0 := fun i hi => by
    rw [← hU, List.getD_eq_getElem?_getD, List.getElem?_take_of_lt hi, List.getElem?_drop, ← List.getD_eq_getElem?_getD]
  have hp : LyP s at_ p := by
    unfold LyW at hw
    rw [hlu] at hw
    refine ⟨hw.1, fun d h1 h2 => ?_⟩
    obtain ⟨j, h3, h4, h5⟩ := hw.2 d h1 h2
    refine ⟨j, h3, fun i hi => ?_, ?_⟩
    · have := h4 i hi
      rw [Nat.zero_add, Nat.zero_add, hg i (by omega), hg (d + i) (by omega)] at this
      rw [Nat.add_assoc]; exact this
    · rw [Nat.zero_add, Nat.zero_add, hg j (by omega), hg (d + j) (by omega)] at h5
      rw [Nat.add_assoc at_ d j]; exact h5
  have := h.add hp hn (by rw [hU]; exact hl)
  rw [hU] at this
  exact this
theorem DuAt.copy {s : List UInt8} {at_ i k m : Nat} (h : DuAt s at_ i k) (hk : k ≤ s.length) (hm : at_ + m * (k - i) ≤ i) : (s.drop (at_ + m * (k - i))).take (k - i) = (s.drop at_).take (k - i) := by
  have h1 := h.le; have h2 := h.lt
  have hM := h.mod_
  generalize hp : k - i = p at *
  apply List.ext_getElem
  · simp only [List.length_take, List.length_drop]; omega
  · intro t ht1 ht2
    simp only [List.length_take, List.length_drop] at ht1 ht2
    rw [List.getElem_take, List.getElem_take, List.getElem_drop, List.getElem_drop]
    have e := hM (m * p + t) (by omega)
    rw [Nat.mul_comm m p, Nat.mul_add_mod, Nat.mod_eq_of_lt (by omega), Nat.mul_comm p m] at e
    rw [show at_ + (m * p + t) = at_ + m * p + t by omega, List.getD_eq_getElem?_getD, List.getElem?_eq_getElem (by omega), List.getD_eq_getElem?_getD, List.getElem?_eq_getElem (by omega)] at e
    exact e
set_option maxHeartbeats 1000000 in
theorem lynSplit_large (s : ByteArray) (hs : 200 < s.size) (w : World) :
    Calls Try.prog 64 #[.string s] w fun e w' => e = .returned (.tuple #[.slice none 0 0, .int .i64 2]) ∧ Below w.heap.size w w' := by
  have HE : Hid (longErr s.size = 2) := by unfold Hid longErr; rw [if_pos hs]
  go_enter Try.func64, Try.ntmps64
  go_wp2_with fail
  refine (wordCheck_any s _).mono ?_
  rintro e w1 ⟨rfl, hb1⟩
  rw [HE.out]
  go_wp2_with fail
  go_ret2
  exact ⟨rfl, hb1⟩
/-- How the third loop stands. -/
structure EmAt (s : List UInt8) (at_ i k m a : Nat) (out : List (List UInt8)) : Prop where
  ea : a = at_ + m * (k - i)
  le : a ≤ k
  sp : SpAt s out a
  no : ∀ u, out.getLast? = some u → ¬ u < (s.drop at_).take (k - i)
  la : 1 ≤ m → out.getLast? = some ((s.drop at_).take (k - i))
  len : out.length ≤ a
theorem EmAt.step {s : List UInt8} {at_ i k m a : Nat} {out : List (List UInt8)} (h : EmAt s at_ i k m a out) (hd : DuAt s at_ i k) (hk : k ≤ s.length) (hi : a ≤ i) :
    EmAt s at_ i k (m + 1) (a + (k - i)) (out ++ [(s.drop a).take (k - i)]) := by
  have ha := h.ea
  have h1 := hd.le; have h2 := hd.lt
  have hc : (s.drop a).take (k - i) = (s.drop at_).take (k - i) := by
    rw [ha]; exact hd.copy hk (by omega)
  have hw : LyW ((s.drop at_).take (k - i)) := lyW_sub hd.ly (by omega)
  refine ⟨by rw [ha, Nat.succ_mul]; omega, by omega, ?_, ?_, ?_, ?_⟩
  · rw [hc]; exact h.sp.addW hc hw (by omega) h.no
  · intro u hu
    rw [List.getLast?_concat] at hu
    obtain rfl := Option.some.inj hu
    rw [hc]; exact List.lt_irrefl _
  · intro _; rw [List.getLast?_concat, hc]
  · rw [List.length_append, List.length_singleton]
    have := h.len; omega
theorem EmAt.fin {s : List UInt8} {at_ i k m a : Nat} {out : List (List UInt8)} (h : EmAt s at_ i k m a out) (hd : DuAt s at_ i k) (hk : k ≤ s.length) (he : k < s.length → s.getD k 0 < s.getD i 0) (hi : i < a) :
    ∀ u, out.getLast? = some u → NIr u (s.drop a) := by
  have h1 := hd.le; have h2 := hd.lt
  have hm : 1 ≤ m := by
    rcases Nat.eq_zero_or_pos m with h0 | h0
    · exfalso; have := h.ea; rw [h0, Nat.zero_mul] at this; omega
    · exact h0
  intro u hu
  rw [h.la hm] at hu
  obtain rfl := Option.some.inj hu
  have := h.ea
  have hle := h.le
  rw [this] at hi hle ⊢
  exact ni_end hd hk he hle hm hi
set_option maxRecDepth 100000 in
set_option maxHeartbeats 8000000 in
theorem lynSplit_any (s : ByteArray) (hs : s.size ≤ 200) (w : World) :
    Calls Try.prog 64 #[.string s] w fun e w' => ∃ v out, e = .returned (.tuple #[v, .int .i64 0]) ∧ SpAt (L s) out s.size ∧ out.length ≤ s.size ∧ w'.ownsRow w.heap.size 9 1 v out.length (strCells out) ∧ Below w.heap.size w w' := by
  obtain ⟨i0, hi0, hz0, hz1, hz2⟩ := info_parts info_str
  have HE : Hid (longErr s.size = 0) := by unfold Hid longErr; rw [if_neg (by omega)]
  have HLL : Hid ((L s).length = s.size) := L_len s
  go_enter Try.func64, Try.ntmps64
  go_wp2_with fail
  refine (wordCheck_any s _).mono ?_
  rintro e w1 ⟨rfl, hb1⟩
  rw [HE.out]
  go_wp2_with fail
  go_loopw [5, 6] (fun o a wr => ∃ (at_ : Nat) (out : List (List UInt8)), a = .int .i64 (at_ : Int) ∧ at_ ≤ s.size ∧ SpAt (L s) out at_ ∧ (∀ u, out.getLast? = some u → NIr u ((L s).drop at_)) ∧ out.length ≤ at_ ∧ wr.ownsRow w.heap.size 9 1 o out.length (strCells out) ∧ Below w.heap.size w wr) (fun _ a _ => s.size - (intOf a).toNat)
  case atStart => exact ⟨0, [], rfl, Nat.zero_le _, SpAt.start _, fun u h => by simp at h, Nat.le_refl _, World.ownsRow_nil _ _ _ _, hb1⟩
  case round =>
    clear hb1
    obtain ⟨at_, out, rfl, hat, hsp, hni, hol, hown, hb⟩ := hrel
    obtain ⟨wo, hwo⟩ : ∃ wo : World, wo = wr := ⟨_, rfl⟩
    subst hwo
    have HSP := Lib.hid hsp
    have HNI := Lib.hid hni
    have HOWN := Lib.hid hown
    clear hsp hni hown
    by_cases hlt : at_ < s.size
    · have g1 : decide ((at_ : Int) < (s.size : Int)) = true := decide_eq_true (by omega)
      go_wp2_with fail
      go_loopw [7, 8] (fun i k wr => ∃ i' k' m : Nat, i = .int .i64 (i' : Int) ∧ k = .int .i64 (k' : Int) ∧ DuAt (L s) at_ i' k' ∧ k' ≤ s.size ∧ wr = wo.drewN m) (fun _ k _ => s.size - (intOf k).toNat)
      case atStart => exact ⟨at_, at_ + 1, 0, rfl, by first | rfl | go_num, DuAt.start _ _, by omega, rfl⟩
      case round =>
        obtain ⟨i, k, m, rfl, rfl, hdu, hk, rfl⟩ := hrel
        have h1 := hdu.le
        have h2 := hdu.lt
        have HDU := Lib.hid hdu
        clear hdu
        have his : i < s.size := by omega
        by_cases hks : k < s.size
        · have g2 : decide ((k : Int) < (s.size : Int)) = true := decide_eq_true (by omega)
          have e1 := getB s i his
          have e2 := getB s k hks
          rcases Nat.lt_trichotomy s[i].toNat s[k].toNat with hc | hc | hc
          · have g3 : decide (s[i].toNat ≤ s[k].toNat) = true := decide_eq_true (by omega)
            have g4 : decide (s[i].toNat < s[k].toNat) = true := decide_eq_true (by omega)
            have HN : Hid (DuAt (L s) at_ at_ (k + 1)) := HDU.out.less (by rw [← e1, ← e2]; exact hc)
            clear e1 e2 hc
            go_wp2_with fail
            go_quiet (fail)
            go_wp2_with fail
            go_quiet (fail)
            go_wp2_with fail
            go_roundw
            case rel => exact ⟨at_, k + 1, _, rfl, by go_num, HN.out, by omega, rfl⟩
            case measure => simp [intOf]; omega
          · have g3 : decide (s[i].toNat ≤ s[k].toNat) = true := decide_eq_true (by omega)
            have g4 : decide (s[i].toNat < s[k].toNat) = false := decide_eq_false (by omega)
            have HN : Hid (DuAt (L s) at_ (i + 1) (k + 1)) := HDU.out.same (by rw [← e1, ← e2]; exact UInt8.toNat_inj.1 hc)
            clear e1 e2 hc
            go_wp2_with fail
            go_quiet (fail)
            go_wp2_with fail
            go_quiet (fail)
            go_wp2_with fail
            go_roundw
            case rel => exact ⟨i + 1, k + 1, _, by go_num, by go_num, HN.out, by omega, rfl⟩
            case measure => simp [intOf]; omega
          · have g3 : decide (s[i].toNat ≤ s[k].toNat) = false := decide_eq_false (by omega)
            have HEX : Hid (k < (L s).length → (L s).getD k 0 < (L s).getD i 0) := fun _ => by rw [← e1, ← e2]; exact hc
            clear e1 e2 hc
            go_wp2_with fail
            go_quiet (fail)
            go_wp2_with fail
            have hbD := below_drewN (below_drewN hb m) nq
            have HOD : Hid ((wo.drewN (m + nq)).ownsRow w.heap.size 9 1 u5 out.length (strCells out)) := HOWN.out
            go_loopw [5, 6] (fun o a wr => ∃ (c a' : Nat) (out' : List (List UInt8)), a = .int .i64 (a' : Int) ∧ EmAt (L s) at_ i k c a' out' ∧ wr.ownsRow w.heap.size 9 1 o out'.length (strCells out') ∧ Below w.heap.size w wr) (fun _ a _ => s.size - (intOf a).toNat)
            case atStart => exact ⟨0, at_, out, rfl, ⟨by omega, by omega, HSP.out, fun u hu => HNI.out u hu (k - i), fun h => by omega, hol⟩, HOD.out, hbD⟩
            case round =>
              clear HOD hbD
              obtain ⟨c, a', out', rfl, hem, hown', hb'⟩ := hrel
              have hal := hem.len
              have hak := hem.le
              have HEM := Lib.hid hem
              have HOWN' := Lib.hid hown'
              clear hem hown'
              by_cases hai : a' ≤ i
              · have g4 : decide ((a' : Int) ≤ (i : Int)) = true := decide_eq_true (by omega)
                have HX : Hid (s.extract a' (a' + k - i) = S (((L s).drop a').take (k - i))) := by
                  unfold Hid; rw [extract_S]; congr 2; omega
                have HST : Hid (EmAt (L s) at_ i k (c + 1) (a' + (k - i)) (out' ++ [((L s).drop a').take (k - i)])) := HEM.out.step HDU.out (by rw [HLL.out]; exact hk) hai
                have gx : ((a' : Int) + (k : Int) - (i : Int)).toNat = a' + k - i := by omega
                go_wp2_with (at_builtin; go_must (refine wpList_appG rfl _ _ _ rfl w.heap.size 9 i0 _ 1 16 Try.underlying51 hi0 hz0 hz1 hz2 rfl (by omega) _ out'.length (strCells out') rfl (World.ownsRow.alloc (w := wr) HOWN'.out _) ⟨wr.heap.size, 0, none⟩ 1 1 [.string (s.extract a' (a' + k - i))] rfl rfl (cell_one_new _ _ _) (by simp [Value.oneCell']) (by omega) (by omega) (by have := (hb').size; simp at this ⊢; omega) ?_); intro v6 w6 hown6 hg6 hb6; have hb6' := ((hb').alloc (hb').size _).trans hb6)
                clear hg6 hb6
                go_roundw
                case rel =>
                  refine ⟨c + 1, a' + (k - i), _, by go_num, HST.out, ?_, hb6'⟩
                  rw [List.length_append, List.length_singleton, ← strCells_snoc', ← HX.out]
                  exact hown6
                case measure => simp [intOf]; omega
              · have g4 : decide ((a' : Int) ≤ (i : Int)) = false := decide_eq_false (by omega)
                have HNI' : Hid (∀ u, out'.getLast? = some u → NIr u ((L s).drop a')) := HEM.out.fin HDU.out (by rw [HLL.out]; exact hk) HEX.out (by omega)
                go_wp2_with fail
                go_roundw
                case rel => exact ⟨a', out', rfl, by omega, HEM.out.sp, HNI'.out, hal, HOWN'.out, hb'⟩
                case measure => simp [intOf]; omega
        · have hkk : k = s.size := by omega
          have g2 : decide ((k : Int) < (s.size : Int)) = false := decide_eq_false (by omega)
          have HEX : Hid (k < (L s).length → (L s).getD k 0 < (L s).getD i 0) := fun h => by rw [HLL.out] at h; omega
          clear hkk
          go_wp2_with fail
          go_quiet (fail)
          go_wp2_with fail
          have hbD := below_drewN (below_drewN hb m) nq
          have HOD : Hid ((wo.drewN (m + nq)).ownsRow w.heap.size 9 1 u5 out.length (strCells out)) := HOWN.out
          go_loopw [5, 6] (fun o a wr => ∃ (c a' : Nat) (out' : List (List UInt8)), a = .int .i64 (a' : Int) ∧ EmAt (L s) at_ i k c a' out' ∧ wr.ownsRow w.heap.size 9 1 o out'.length (strCells out') ∧ Below w.heap.size w wr) (fun _ a _ => s.size - (intOf a).toNat)
          case atStart => exact ⟨0, at_, out, rfl, ⟨by omega, by omega, HSP.out, fun u hu => HNI.out u hu (k - i), fun h => by omega, hol⟩, HOD.out, hbD⟩
          case round =>
            clear HOD hbD
            obtain ⟨c, a', out', rfl, hem, hown', hb'⟩ := hrel
            have hal := hem.len
            have hak := hem.le
            have HEM := Lib.hid hem
            have HOWN' := Lib.hid hown'
            clear hem hown'
            by_cases hai : a' ≤ i
            · have g4 : decide ((a' : Int) ≤ (i : Int)) = true := decide_eq_true (by omega)
              have HX : Hid (s.extract a' (a' + k - i) = S (((L s).drop a').take (k - i))) := by
                unfold Hid; rw [extract_S]; congr 2; omega
              have HST : Hid (EmAt (L s) at_ i k (c + 1) (a' + (k - i)) (out' ++ [((L s).drop a').take (k - i)])) := HEM.out.step HDU.out (by rw [HLL.out]; exact hk) hai
              have gx : ((a' : Int) + (k : Int) - (i : Int)).toNat = a' + k - i := by omega
              go_wp2_with (at_builtin; go_must (refine wpList_appG rfl _ _ _ rfl w.heap.size 9 i0 _ 1 16 Try.underlying51 hi0 hz0 hz1 hz2 rfl (by omega) _ out'.length (strCells out') rfl (World.ownsRow.alloc (w := wr) HOWN'.out _) ⟨wr.heap.size, 0, none⟩ 1 1 [.string (s.extract a' (a' + k - i))] rfl rfl (cell_one_new _ _ _) (by simp [Value.oneCell']) (by omega) (by omega) (by have := (hb').size; simp at this ⊢; omega) ?_); intro v6 w6 hown6 hg6 hb6; have hb6' := ((hb').alloc (hb').size _).trans hb6)
              clear hg6 hb6
              go_roundw
              case rel =>
                refine ⟨c + 1, a' + (k - i), _, by go_num, HST.out, ?_, hb6'⟩
                rw [List.length_append, List.length_singleton, ← strCells_snoc', ← HX.out]
                exact hown6
              case measure => simp [intOf]; omega
            · have g4 : decide ((a' : Int) ≤ (i : Int)) = false := decide_eq_false (by omega)
              have HNI' : Hid (∀ u, out'.getLast? = some u → NIr u ((L s).drop a')) := HEM.out.fin HDU.out (by rw [HLL.out]; exact hk) HEX.out (by omega)
              go_wp2_with fail
              go_roundw
              case rel => exact ⟨a', out', rfl, by omega, HEM.out.sp, HNI'.out, hal, HOWN'.out, hb'⟩
              case measure => simp [intOf]; omega
    · have g1 : decide ((at_ : Int) < (s.size : Int)) = false := decide_eq_false (by omega)
      obtain rfl : at_ = s.size := by omega
      go_wp2_with fail
      go_ret2
      exact ⟨_, out, rfl, HSP.out, hol, HOWN.out, hb⟩
end Go.Proofs.Ytllcmmpepchieaa
