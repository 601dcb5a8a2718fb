/- SplitByte, of the program and of the reference. Conditions: at most 2^20 bytes; the cell of the library's MaxLen holds an int. -/
import Derived.Test.YtmojniiimondfaaDoorT02
import Derived.Test.YtmojniiimondfaaDoorShD
import Derived.Lib.Strings
namespace Go.Proofs.YtmojniiimondfaaDoor
open Go.RowKit Go.Shelf

/-- The library's MaxLen holds some int. -/
def MaxL (w : World) : Prop := ∃ m, w.cell? ⟨1, 0, none⟩ = some (.int .i64 m)
theorem MaxL.below {w w' : World} (h : MaxL w) (hb : Below w.heap.size w w') : MaxL w' := by
  obtain ⟨m, hm⟩ := h
  exact ⟨m, (hb.cell (p := ⟨1, 0, none⟩) (World.block_lt_of_cell? w _ hm)).trans hm⟩
theorem maxLen_of {W : World} (h : W.ShapedOpen Tryd.prog) : MaxL W := Tryd.laysM146.s1_3 W h

/-- The pieces, as strings. -/
def splS (c : UInt8) (l : List UInt8) : List ByteArray := (spl c l).map fun p => ⟨p.toArray⟩
theorem length_splS (c : UInt8) (l : List UInt8) : (splS c l).length ≤ l.length + 1 := by unfold splS; rw [List.length_map]; exact spl_len c l
theorem map_inj {f : ByteArray → List UInt8} (hf : ∀ a b, f a = f b → a = b) : ∀ {l m : List ByteArray}, l.map f = m.map f → l = m
  | [], [], _ => rfl
  | [], _ :: _, h => by simp at h
  | _ :: _, [], h => by simp at h
  | a :: l, b :: m, h => by
    simp only [List.map_cons, List.cons.injEq] at h
    rw [hf a b h.1, map_inj hf h.2]
theorem sizeT (s : ByteArray) : s.data.toList.length = s.size := by rw [Array.length_toList]; rfl

theorem strSplit_any (s : ByteArray) (c : UInt8) (w : World) (hs : s.size ≤ 1048576) (hm : MaxL w) :
    Calls Tryd.prog 26 #[.string s, .string ⟨#[c]⟩] w (RetSs w (splS c s.data.toList)) := by
  obtain ⟨m, hm⟩ := hm
  have hcon := Any.strings_Split (P := Tryd.prog) { Tryd.laysM146 with } Tryd.laysM146.i9 s ⟨#[c]⟩ m w (by omega) hm (Nat.le_refl 1)
  change Calls Tryd.prog 26 _ _ _ at hcon
  have e : Lib.splitB ⟨#[c]⟩ 0 (Lib.countB s ⟨#[c]⟩) s = splS c s.data.toList := by
    refine map_inj (f := fun x => x.data.toList) (fun a b h => ByteArray.ext (Array.ext' h)) ?_
    rw [Lib.splitB_data]
    unfold splS
    rw [List.map_map]
    have e1 : (⟨#[c]⟩ : ByteArray).data.toList = [c] := rfl
    rw [e1]
    have e2 : Lib.countB s ⟨#[c]⟩ = Lib.count s.data.toList [c] := rfl
    rw [e2, split_spl]
    have e3 : ((fun x : ByteArray => x.data.toList) ∘ fun p : List UInt8 => (⟨p.toArray⟩ : ByteArray)) = id := by funext p; simp
    rw [e3, List.map_id]
  have hl : (splS c s.data.toList).length = Lib.countB s ⟨#[c]⟩ + 1 := by rw [← e]; exact Lib.splitB_all (⟨#[c]⟩ : ByteArray) (Nat.le_refl 1) 0 _ s rfl
  rw [e] at hcon
  refine hcon.mono ?_
  rintro e w' ⟨rfl, rfl⟩
  refine ⟨_, _, _, rfl, ⟨hl, ?_⟩, below_alloc _ _⟩
  have h1 := World.ownsRow_lit (e := 9) (size := 1) (base := w.heap.size) w ((splS c s.data.toList).map Value.string).toArray (Lib.countB s ⟨#[c]⟩ + 1) (Nat.le_refl _) (by
    have := length_splS c s.data.toList; rw [sizeT] at this; unfold maxLen; omega) (by simp [hl])
  have h2 : (w.alloc (.cells ((splS c s.data.toList).map Value.string).toArray 9)).ownsRow w.heap.size 9 1 (.slice (some ⟨w.heap.size, 0, none⟩) (Lib.countB s ⟨#[c]⟩ + 1) (Lib.countB s ⟨#[c]⟩ + 1)) (Lib.countB s ⟨#[c]⟩ + 1) ((splS c s.data.toList).map Value.string) := by simpa using h1
  exact h2

theorem conv1b (w : World) (b : UInt8) (v : Int) (hv : (b.toNat : Int) = v) :
    (convert 29 9 (.slice (some ⟨w.heap.size, 0, none⟩) 1 1)).run Tryd.prog (w.alloc (.cells #[.int .u8 v] 5)) = .ok (.string ⟨#[b]⟩) (w.alloc (.cells #[.int .u8 v] 5)) := by
  subst hv
  exact run_convert_bytes_back _ _ _ _ _ _ [b] Tryd.underlying29 Tryd.underlying5 Tryd.underlying9 (fun j hj => by
    have hj0 : j = 0 := by simpa using hj
    subst hj0
    rw [List.getElem_cons_zero, Addr.add_lit]
    simp)
theorem byte_of {v : Int} (hw : (Lit.int .u8 v).wf = true) : ∃ b : UInt8, (b.toNat : Int) = v := by
  have e1 : IntKind.u8.min = 0 := by decide
  have e2 : IntKind.u8.max = 255 := by decide
  simp [Lit.wf] at hw
  refine ⟨UInt8.ofNat v.toNat, ?_⟩
  rw [UInt8.toNat_ofNat']; omega

set_option maxHeartbeats 600000 in
theorem impl_SplitByte (s : ByteArray) (b : UInt8) (w : World) (hs : s.size ≤ 1048576) (hm : MaxL w) :
    Calls Tryd.prog 12 #[.string s, .int .u8 (b.toNat : Int)] w (RetSs w (splS b s.data.toList)) := by
  have hc := conv1b w b _ rfl
  have hba := below_alloc w (.cells #[.int .u8 (b.toNat : Int)] 5)
  have hC := strSplit_any s b _ hs (hm.below hba)
  go_enter Tryd.func12, Tryd.ntmps12
  go_wp2_with fail
  refine hC.mono ?_
  rintro e w1 ⟨a1, n1, c1, rfl, ho, hb1⟩
  go_wp2
  go_ret
  exact ⟨_, _, _, rfl, ho.mono (by simp), hba.trans (hb1.mono (by simp))⟩

set_option maxHeartbeats 1000000 in
theorem spec_SplitByte (s : ByteArray) (b : UInt8) (w : World) (hs : s.size ≤ 1048576) :
    Calls Tryd.prog 11 #[.string s, .int .u8 (b.toNat : Int)] w (RetSs w (splS b s.data.toList)) := by
  obtain ⟨l, hl⟩ : ∃ l, l = s.data.toList := ⟨_, rfl⟩
  have hln : l.length = s.size := by rw [hl, sizeT]
  rw [← hl]
  have HL := Lib.hid hl
  have HLN := Lib.hid hln
  obtain ⟨E, hE⟩ : ∃ E, E = splS b l := ⟨_, rfl⟩
  rw [← hE]
  have HE := Lib.hid hE
  clear hl hE hln
  go_enter Tryd.func11, Tryd.ntmps11
  go_wp2
  go_loopw [5, 6, 7] (fun ov fv iv wr => ∃ (i f m c3 : Nat) (a3 : Option Addr) (T : List ByteArray), i ≤ s.size + 1 ∧ f ≤ i ∧ m ≤ i ∧ ov = .slice a3 m c3 ∧ fv = .int .i64 f ∧ iv = .int .i64 i ∧
      Hid (OwnS wr w.heap.size a3 m c3 T) ∧ Hid (i ≤ s.size → ∃ done : List (List UInt8), T = done.map (fun p => ⟨p.toArray⟩) ∧ spl b l = done ++ spl b (l.drop f) ∧ ∀ x ∈ (l.drop f).take (i - f), x ≠ b) ∧ Hid (s.size < i → T = E) ∧ Below w.heap.size w wr) (fun _ _ iv _ => s.size + 1 - (intOf iv).toNat)
  case atStart => exact ⟨0, 0, 0, 0, _, [], Nat.zero_le _, Nat.le_refl _, Nat.zero_le _, rfl, by go_num, by go_num, OwnS.lit0 w, fun _ => ⟨[], rfl, by simp, by simp⟩, fun h => by omega, below_alloc _ _⟩
  case round =>
    obtain ⟨i, f, m, c3, a3, T, hi, hf, hmi, rfl, rfl, rfl, HO, HS, HX, hb⟩ := hrel
    by_cases hle : i ≤ s.size
    · obtain ⟨done, hT, hsp, hfr⟩ := HS.out hle
      have hsz := hb.size
      have hex : s.extract f i = ⟨((l.drop f).take (i - f)).toArray⟩ := by
        apply ByteArray.ext
        apply Array.ext'
        rw [Lib.extract_data, ← HL.out]
      have hleI : (i : Int) ≤ (s.size : Int) := by omega
      by_cases hend : i = s.size
      · have hee : ((i : Int) == (s.size : Int)) = true := by rw [hend]; simp
        have hlast := spl_last hsp (by rw [HLN.out, ← hend]; exact hfr)
        have HTE : Hid (T ++ [s.extract f i] = E) := by
          show _ = _
          rw [HE.out, hex, hT]
          unfold splS
          rw [hlast, List.map_append, HLN.out, ← hend]; rfl
        have HTE2 : Hid (T ++ [s.extract f s.size] = E) := by rw [← hend]; exact HTE
        clear hex hlast hsp hfr hT HS HX HTE
        go_wp2_with (at_builtin; refine wpList_appS rfl _ _ rfl w.heap.size _ _ _ _ rfl HO.out _ rfl (by omega) hsz ?_)
        intro a4 c4 w4 ho4 hb4
        have HO4 : Hid (OwnS w4 w.heap.size a4 (m + 1) c4 E) := by rw [← HTE2.out]; exact ho4
        have hbn := hb.trans hb4
        clear ho4 hb4 HO HTE2
        go_wp2
        go_roundw
        case rel => exact ⟨i + 1, i + 1, m + 1, c4, a4, E, by omega, Nat.le_refl _, by omega, rfl, by go_num, by go_num, HO4, fun h => by omega, fun _ => rfl, hbn⟩
        case measure => simp [intOf]; omega
      · have hlt : i < s.size := by omega
        have hee : ((i : Int) == (s.size : Int)) = false := by rw [beq_eq_false_iff_ne]; omega
        have hget : l[i]? = some s[i] := by
          rw [HL.out, List.getElem?_eq_getElem (by rw [sizeT]; exact hlt)]; rfl
        by_cases hbb : s[i] = b
        · have hbe : (((s[i]).toNat : Int) == (b.toNat : Int)) = true := by rw [hbb]; simp
          have hstep := spl_step hf hsp hfr (by rw [hget, hbb])
          have HT2 : Hid (T ++ [s.extract f i] = (done ++ [(l.drop f).take (i - f)]).map (fun p => (⟨p.toArray⟩ : ByteArray))) := by
            show _ = _
            rw [hex, hT, List.map_append]; rfl
          have HST := Lib.hid hstep
          generalize hxe : s.extract f i = X at HT2
          clear hex hstep hsp hfr hT HS HX hget hbb
          go_wp2_with (at_builtin; refine wpList_appS rfl _ _ rfl w.heap.size _ _ _ _ rfl HO.out _ rfl (by omega) hsz ?_)
          intro a4 c4 w4 ho4 hb4
          have HO4 := Lib.hid ho4
          have hbn := hb.trans hb4
          clear ho4 hb4 HO
          go_wp2
          go_roundw
          case rel => exact ⟨i + 1, i + 1, m + 1, c4, a4, _, by omega, Nat.le_refl _, by omega, rfl, by go_num, by go_num, HO4, fun _ => ⟨_, HT2.out, HST.out, by simp⟩, fun h => by omega, hbn⟩
          case measure => simp [intOf]; omega
        · have hbe : (((s[i]).toNat : Int) == (b.toNat : Int)) = false := by
            rw [beq_eq_false_iff_ne]; intro e; exact hbb (UInt8.toNat_inj.1 (by omega))
          have HG := Lib.hid (seg_grow hf hfr hget hbb)
          have HSP := Lib.hid hsp
          have HTT := Lib.hid hT
          clear hex hsp hfr hT HS HX hget
          go_wp2
          go_roundw
          case rel => exact ⟨i + 1, f, m, c3, a3, T, by omega, by omega, by omega, rfl, by go_num, by go_num, HO, fun _ => ⟨done, HTT.out, HSP.out, HG.out⟩, fun h => by omega, hb⟩
          case measure => simp [intOf]; omega
    · have hTE := HX.out (by omega)
      subst hTE
      have hleI : ¬ ((i : Int) ≤ (s.size : Int)) := by omega
      go_wp2
      go_ret
      exact ⟨_, _, _, rfl, HO.out, hb⟩
end Go.Proofs.YtmojniiimondfaaDoor
