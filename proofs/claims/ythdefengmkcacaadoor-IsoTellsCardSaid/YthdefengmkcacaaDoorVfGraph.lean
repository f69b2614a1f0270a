
/- A graph of small numbers, as a plain function on lists. No condition but sizes. -/
import Derived.Test.YthdefengmkcacaaDoorVfIsoC
import Derived.Test.YthdefengmkcacaaDoorVfPutD
namespace Go.Proofs.YthdefengmkcacaaDoor.Vf
set_option linter.unusedVariables false
set_option linter.unusedSimpArgs false

structure LT where
  kind : Int
  tag : Int
  value : Int
  text : List UInt8
  kids : List Int
deriving Inhabited
def LT.av (t : LT) : AV := .agg [.int .i64 t.kind, .int .i64 t.tag, .int .i64 t.value, .str t.text, .row 1 (iA t.kids)]
def ltA (l : List LT) : List AV := l.map LT.av
theorem ltA_len (l : List LT) : (ltA l).length = l.length := List.length_map ..
theorem get_lt {α : Type} {l : List LT} {i : Nat} {f : AV → Option α} (h : i < l.length) : ((ltA l)[i]?).bind f = f (l.getD i default).av := by
  simp [ltA, List.getD, h]
theorem ltAs {α : Type} {t : LT} {K : Int → Int → Int → List UInt8 → List AV → Option α} : asIIISRA t.av K = K t.kind t.tag t.value t.text (iA t.kids) := by
  simp only [asIIISRA, LT.av, asA_a, asC_c, asI_i, asS_s, asR_r, asN_n]
theorem iA_app (a b : List Int) : iA (a ++ b) = iA a ++ iA b := List.map_append ..
theorem gA_app (a b : List Th) : gA (a ++ b) = gA a ++ gA b := List.map_append ..
theorem cut_all {α : Type} (l : List α) : (l.drop 0).take l.length = l := by rw [List.drop_zero, List.take_length]

theorem D_copyInt (l : List AV) (h : l.length ≤ 1000000000) : D id_keepCopyInt [.row 1 l] = some ⟨.row 1 l, true, []⟩ := by
  refine den_fn (N := 0) (F := keepCopyInt) rfl rfl ?_
  refine (keepCopyInt_eq D _ l).trans ?_
  unfold keepCopyIntr
  rw [need_d (by omega), cut_all]
theorem D_cutInt (l : List AV) : D id_keepCutInt [.row 1 l, .int .i64 5] = some ⟨.row 1 (l.take 5), false, []⟩ := by
  refine den_fn (N := 0) (F := keepCutInt) rfl rfl ?_
  refine (keepCutInt_eq D _ l 5).trans ?_
  unfold keepCutIntr
  by_cases h : (5 : Int) < ((l.length : Nat) : Int)
  · simp only [if_pos h]
    rw [need_d2 (by omega) (by omega), show Int.toNat 5 = 5 from rfl, List.drop_zero, D_copyInt _ (by simp; omega)]
    simp only [Option.bind_some, asR_r]
  · simp only [if_neg h]
    rw [need_d2 (by omega) (by omega), Int.toNat_natCast, List.drop_zero, List.take_length, D_copyInt _ (by omega), List.take_of_length_le (by omega)]
    simp only [Option.bind_some, asR_r]

def most (n : Nat) : Nat := if 9 < n then 9 else n
theorem most_int (n : Nat) : (if 9 < ((n : Nat) : Int) then (9 : Int) else ((n : Nat) : Int)) = ((most n : Nat) : Int) := by
  unfold most
  by_cases h : 9 < n
  · rw [if_pos h, if_pos (by omega)]; rfl
  · rw [if_neg h, if_neg (by omega)]
/-- A Kid that there is, if there is to be. -/
def kidOf (n : Nat) (raw : Bool) (k : Int) : Int := if raw = false ∨ Int.tmod k 9 ≠ 8 then k % ((most n : Nat) : Int) else k
theorem kid_step (l : List LT) (h0 : 0 < l.length) (N : Nat) (hN : 0 < N) (k0 : List AV → Bool → Int → List AV → Int → Int → List AV → List AV → Int → List UInt8 → List UInt8 → Option Res) (raw : Bool) (i : Int) (ks : List Int) (i2 : Int) (j : Nat) (hj : j < ks.length) (hk : ks.length ≤ 1000000) (L : List Int) (hL : L.length ≤ 1000000) (lg : List AV) (kd : Int) (s1 s2 : List UInt8) :
    law18Graph_J8 D N k0 (ltA l) raw i (iA ks) i2 (j : Int) (iA L) lg kd s1 s2 = k0 (ltA l) raw i (iA ks) i2 ((j + 1 : Nat) : Int) (iA (L ++ [kidOf l.length raw (ks.getD j 0)])) lg kd s1 s2 := by
  unfold law18Graph_J8
  simp only [posN_pos hN]
  have hm : 1 ≤ most l.length ∧ most l.length ≤ 9 := by unfold most; split <;> omega
  have fin : ∀ k : Int, k = kidOf l.length raw (ks.getD j 0) → law18Graph_J9 D N (fun l48 b14 i64 l49 i65 i66 l50 l51 i67 s33 s34 => law18Graph_J10 D N (fun l64 b18 i80 l65 i81 i82 l66 l67 i83 s41 s42 => k0 l64 b18 i80 l65 i81 i82 l66 l67 i83 s41 s42) l48 b14 i64 l49 i65 i66 l50 l51 i67 s33 s34) (ltA l) raw i k (iA ks) i2 (j : Int) (iA L) lg kd s1 s2 = k0 (ltA l) raw i (iA ks) i2 ((j + 1 : Nat) : Int) (iA (L ++ [kidOf l.length raw (ks.getD j 0)])) lg kd s1 s2 := by
    intro k hk'
    unfold law18Graph_J9 law18Graph_J10
    simp only [posN_pos hN]
    rw [cut_all, need_d (by rw [iA_len]; simp; omega), wrap_i64 (by omega) (by omega), show (j : Int) + 1 = ((j + 1 : Nat) : Int) by omega, iA_app, ← hk']
    rfl
  rw [need_d (by omega)]
  simp only [Int.toNat_natCast]
  rw [get_iA hj]
  simp only [asI_i]
  rw [ltA_len, most_int, D_Within _ _ (by omega) (by omega)]
  simp only [Option.bind_some, asI_i]
  cases raw
  · exact fin _ (by unfold kidOf; rw [if_pos (.inl rfl)])
  · simp only [Bool.not_true, cond_false]
    rw [need_nd (show ¬ (9 : Nat) = 0 by omega)]
    by_cases h9 : Int.tmod (ks.getD j 0) 9 = 8
    · rw [cond_beq h9]
      exact fin _ (by unfold kidOf; rw [if_neg (fun e => e.elim (fun e => by cases e) fun e => e h9)])
    · rw [cond_bne h9]
      exact fin _ (by unfold kidOf; rw [if_pos (.inr h9)])
theorem kids_loop (l : List LT) (h0 : 0 < l.length) (N : Nat) (hN : 0 < N) (k0 : List AV → Bool → Int → List AV → List AV → Int → List UInt8 → List UInt8 → Option Res) (raw : Bool) (i : Int) (ks : List Int) (hk : ks.length ≤ 100000) (lg : List AV) (kd : Int) (s1 s2 : List UInt8) : ∀ (f j : Nat) (L : List Int), ks.length < j + f → j ≤ ks.length → L.length ≤ 100000 + j →
    law18Graph_L7 D N k0 f (ltA l) raw i (iA ks) ks.length j (iA L) lg kd s1 s2 = k0 (ltA l) raw i (iA (L ++ (ks.drop j).map (kidOf l.length raw))) lg kd s1 s2 := by
  intro f
  induction f with
  | zero => intro j L h _ _; omega
  | succ f ih =>
    intro j L h hj hL
    simp only [law18Graph_L7, law18Graph_L7s]
    by_cases hlt : j < ks.length
    · rw [cond_d (by omega), kid_step l h0 N hN _ raw i ks _ j hlt (by omega) L (by omega), ih (j + 1) _ (by omega) (by omega) (by simp; omega), List.drop_eq_getElem_cons hlt, List.map_cons, List.append_assoc]
      simp [List.getD, hlt]
    · rw [cond_nd (by omega), List.drop_eq_nil_of_le (by omega), List.map_nil, List.append_nil]

def kidsOf (n : Nat) (raw : Bool) (t : LT) (kd : Int) : List Int := if kd ≠ 1 ∨ (raw = true ∧ Int.tmod t.value 7 = 6) then (t.kids.take 5).map (kidOf n raw) else []
def tag2 (raw : Bool) (t : LT) (s : List UInt8) : List UInt8 := if raw = true ∧ Int.tmod t.tag 7 = 6 then t.text.take 8 else s
def val2 (raw : Bool) (s : List UInt8) : List UInt8 := if Lib.validD s = false ∧ raw = false then [97] else s
def tags1 : List (List UInt8) := [[33, 33, 115, 116, 114], [33, 33, 115, 116, 114], [33, 33, 105, 110, 116], [33, 33, 110, 117, 108, 108], [33, 120], [33, 33, 102, 108, 111, 97, 116]]
def tags2 : List (List UInt8) := [[33, 33, 115, 101, 113], [33, 33, 115, 101, 113], [33, 121]]
def tags3 : List (List UInt8) := [[33, 33, 109, 97, 112], [33, 33, 109, 97, 112], [33, 122]]
def vals1 (t : LT) : List (List UInt8) := [[97], [98], [49], [], [116, 114, 117, 101], [120, 32, 121], [48, 46, 53], t.text.take 12]
def tag1 (kd : Int) (t : LT) : List UInt8 := if kd = 1 then tags1.getD (t.tag % 6).toNat [] else if kd = 2 then tags2.getD (t.tag % 3).toNat [] else tags3.getD (t.tag % 3).toNat []
def val1 (kd : Int) (t : LT) : List UInt8 := if kd = 1 then (vals1 t).getD (t.value % 8).toNat [] else []
def kindOf (raw : Bool) (t : LT) : Int := if raw = true ∧ Int.tmod t.kind 5 = 4 then t.kind else 1 + t.kind % 3
def thOf (n : Nat) (raw : Bool) (t : LT) : Th := ⟨kindOf raw t, tag2 raw t (tag1 (kindOf raw t) t), val2 raw (val1 (kindOf raw t) t), kidsOf n raw t (kindOf raw t)⟩

section one
variable (l : List LT) (N : Nat) (hN : 10 ≤ N) (k0 : List AV → Bool → Int → List AV → Option Res) (raw : Bool) (i : Nat) (hi : i < l.length) (g : List Th) (hg : g.length ≤ 1000000) (kd : Int)
include hg hN in
theorem J11_is (i' : Int) (L : List Int) (s1 s2 : List UInt8) : law18Graph_J11 D N k0 (ltA l) raw i' (iA L) (gA g) kd s1 s2 = k0 (ltA l) raw i' (gA (g ++ [⟨kd, s1, s2, L⟩])) := by
  unfold law18Graph_J11
  simp only [posN_pos (show 0 < N by omega)]
  rw [cut_all, cut_all, need_d (by rw [gA_len]; simp; omega), gA_app]
  rfl
include hg hi hN in
theorem J6_is (s1 s2 : List UInt8) : law18Graph_J6 D N k0 (ltA l) raw (i : Int) [] (gA g) kd s1 s2 = k0 (ltA l) raw (i : Int) (gA (g ++ [⟨kd, s1, s2, kidsOf l.length raw (l.getD i default) kd⟩])) := by
  unfold law18Graph_J6
  simp only [posN_pos (show 0 < N by omega)]
  have yes : kidsOf l.length raw (l.getD i default) kd = ((l.getD i default).kids.take 5).map (kidOf l.length raw) → law18Graph_L7 D N (fun l102 b28 i117 l103 l104 i118 s61 s62 => law18Graph_J11 D N (fun l112 b32 i123 l113 => k0 l112 b32 i123 l113) l102 b28 i117 l103 l104 i118 s61 s62) N (ltA l) raw (i : Int) (iA ((l.getD i default).kids.take 5)) (((iA ((l.getD i default).kids.take 5)).length : Nat) : Int) 0 [] (gA g) kd s1 s2 = k0 (ltA l) raw (i : Int) (gA (g ++ [⟨kd, s1, s2, kidsOf l.length raw (l.getD i default) kd⟩])) := by
    intro e
    have hlen : ((l.getD i default).kids.take 5).length ≤ 5 := by simp; omega
    rw [iA_len]
    refine (kids_loop l (by omega) N (by omega) _ raw i ((l.getD i default).kids.take 5) (by omega) (gA g) kd s1 s2 N 0 [] (by omega) (by omega) (by simp)).trans ?_
    rw [J11_is l N hN _ raw g hg kd, List.drop_zero, List.nil_append, e]
  have no : kidsOf l.length raw (l.getD i default) kd = [] → law18Graph_J11 D N (fun l122 b35 i133 l123 => k0 l122 b35 i133 l123) (ltA l) raw (i : Int) [] (gA g) kd s1 s2 = k0 (ltA l) raw (i : Int) (gA (g ++ [⟨kd, s1, s2, kidsOf l.length raw (l.getD i default) kd⟩])) := by
    intro e
    rw [e]
    exact J11_is l N hN k0 raw g hg kd i [] s1 s2
  have htk : (iA (l.getD i default).kids).take 5 = iA ((l.getD i default).kids.take 5) := by unfold iA; rw [List.map_take]
  by_cases h1 : kd = 1
  · rw [cond_beq h1]
    cases raw
    · exact no (by unfold kidsOf; rw [if_neg (by simp [h1])])
    · simp only [cond_true]
      rw [need_d (by omega)]
      simp only [Int.toNat_natCast]
      rw [get_lt hi, ltAs, need_nd (show ¬ (7 : Nat) = 0 by omega)]
      by_cases h7 : Int.tmod (l.getD i default).value 7 = 6
      · rw [cond_eq h7, need_d (by omega), get_lt hi, ltAs, D_cutInt]
        simp only [Option.bind_some, asR_r]
        rw [htk]
        exact yes (by unfold kidsOf; rw [if_pos (.inr ⟨rfl, h7⟩)])
      · rw [cond_ne h7]
        exact no (by unfold kidsOf; rw [if_neg (fun e => e.elim (fun e => e h1) fun e => h7 e.2)])
  · rw [cond_bne h1, need_d (by omega)]
    simp only [Int.toNat_natCast]
    rw [get_lt hi, ltAs, D_cutInt]
    simp only [Option.bind_some, asR_r]
    rw [htk]
    exact yes (by unfold kidsOf; rw [if_pos (.inl h1)])
include hg hi hN in
theorem J5_is (s1 s2 : List UInt8) : law18Graph_J5 D N k0 (ltA l) raw (i : Int) [] (gA g) kd s1 s2 = k0 (ltA l) raw (i : Int) (gA (g ++ [⟨kd, tag2 raw (l.getD i default) s1, s2, kidsOf l.length raw (l.getD i default) kd⟩])) := by
  unfold law18Graph_J5
  simp only [posN_pos (show 0 < N by omega)]
  have no : tag2 raw (l.getD i default) s1 = s1 → law18Graph_J6 D N (fun l134 b41 i139 l135 => k0 l134 b41 i139 l135) (ltA l) raw (i : Int) [] (gA g) kd s1 s2 = k0 (ltA l) raw (i : Int) (gA (g ++ [⟨kd, tag2 raw (l.getD i default) s1, s2, kidsOf l.length raw (l.getD i default) kd⟩])) := by
    intro e
    rw [e]
    exact J6_is l N hN k0 raw i hi g hg kd s1 s2
  cases raw
  · exact no (by unfold tag2; rw [if_neg (by simp)])
  · simp only [cond_true]
    rw [need_d (by omega)]
    simp only [Int.toNat_natCast]
    rw [get_lt hi, ltAs, need_nd (show ¬ (7 : Nat) = 0 by omega)]
    by_cases h7 : Int.tmod (l.getD i default).tag 7 = 6
    · rw [cond_eq h7, need_d (by omega), get_lt hi, ltAs, show (8 : Int) = ((8 : Nat) : Int) from rfl, D_Text _ 8 (by omega)]
      simp only [Option.bind_some, asS_s]
      refine (J6_is l N hN _ true i hi g hg kd _ s2).trans ?_
      rw [show tag2 true (l.getD i default) s1 = (l.getD i default).text.take 8 by unfold tag2; rw [if_pos ⟨rfl, h7⟩]]
    · rw [cond_ne h7]
      exact no (by unfold tag2; rw [if_neg (fun e => h7 e.2)])
include hg hi hN in
theorem J4_is (s1 s2 : List UInt8) (hs : s2.length ≤ 10000) : law18Graph_J4 D N k0 (ltA l) raw (i : Int) [] (gA g) kd s1 s2 = k0 (ltA l) raw (i : Int) (gA (g ++ [⟨kd, tag2 raw (l.getD i default) s1, val2 raw s2, kidsOf l.length raw (l.getD i default) kd⟩])) := by
  unfold law18Graph_J4
  simp only [posN_pos (show 0 < N by omega)]
  obtain ⟨t, ht⟩ := D_refPutW s2 hs
  rw [ht]
  simp only [Option.bind_some, asSBT, asT_t, asC_c, asS_s, asB_b, asN_n]
  unfold val2
  cases hv : Lib.validD s2
  · cases raw
    · exact J5_is l N hN k0 false i hi g hg kd s1 [97]
    · exact J5_is l N hN k0 true i hi g hg kd s1 s2
  · exact J5_is l N hN k0 raw i hi g hg kd s1 s2
theorem pick_str {α : Type} (L : List (List UInt8)) (n : Nat) (h : n < L.length) (K : List UInt8 → Option α) : ((L.map AV.str)[n]?).bind (fun e => asS e K) = K (L.getD n []) := by
  simp [List.getD, h, asS]
theorem mod_lt (v : Int) (n : Nat) (h : 0 < n) : 0 ≤ v % (n : Int) ∧ (v % (n : Int)).toNat < n := by
  have h1 := Int.emod_nonneg v (show (n : Int) ≠ 0 by omega)
  have h2 := Int.emod_lt_of_pos v (show (0 : Int) < n by omega)
  omega
theorem vals1_len (t : LT) : ∀ s ∈ vals1 t, s.length ≤ 100 := by
  intro s hs
  simp only [vals1, List.mem_cons, List.not_mem_nil, or_false] at hs
  rcases hs with rfl | rfl | rfl | rfl | rfl | rfl | rfl | rfl
  all_goals first | decide | (simp; omega)
theorem val1_len (kd : Int) (t : LT) : (val1 kd t).length ≤ 100 := by
  unfold val1
  split
  · have h := (mod_lt t.value 8 (by omega)).2
    have : (vals1 t).getD (t.value % 8).toNat [] ∈ vals1 t := by
      rw [List.getD_eq_getElem?_getD, List.getElem?_eq_getElem (show (t.value % 8).toNat < (vals1 t).length from h)]
      exact List.getElem_mem _
    exact vals1_len t _ this
  · simp
include hg hi hN in
theorem J3_is : law18Graph_J3 D N k0 (ltA l) raw (i : Int) [] (gA g) kd [] [] = k0 (ltA l) raw (i : Int) (gA (g ++ [⟨kd, tag2 raw (l.getD i default) (tag1 kd (l.getD i default)), val2 raw (val1 kd (l.getD i default)), kidsOf l.length raw (l.getD i default) kd⟩])) := by
  unfold law18Graph_J3
  simp only [posN_pos (show 0 < N by omega)]
  have hval := val1_len kd (l.getD i default)
  have fin := J4_is l N hN k0 raw i hi g hg kd (tag1 kd (l.getD i default)) (val1 kd (l.getD i default)) (by omega)
  have m6 : 0 ≤ (l.getD i default).tag % (6 : Int) ∧ ((l.getD i default).tag % (6 : Int)).toNat < 6 := mod_lt (l.getD i default).tag 6 (by omega)
  have m3 : 0 ≤ (l.getD i default).tag % (3 : Int) ∧ ((l.getD i default).tag % (3 : Int)).toNat < 3 := mod_lt (l.getD i default).tag 3 (by omega)
  have m8 : 0 ≤ (l.getD i default).value % (8 : Int) ∧ ((l.getD i default).value % (8 : Int)).toNat < 8 := mod_lt (l.getD i default).value 8 (by omega)
  have nd : ∀ y : Option Res, need (decide (0 ≤ (i : Int))) y = y := fun y => need_d (by omega)
  by_cases h1 : kd = 1
  · rw [cond_eq h1]
    simp only [nd, Int.toNat_natCast]
    rw [get_lt hi, ltAs, D_Within _ 6 (by omega) (by omega)]
    simp only [Option.bind_some, asI_i]
    rw [need_d m6.1]
    refine (pick_str tags1 _ m6.2 _).trans ?_
    rw [get_lt hi, ltAs, show (12 : Int) = ((12 : Nat) : Int) from rfl, D_Text _ 12 (by omega)]
    simp only [Option.bind_some, asS_s]
    rw [get_lt hi, ltAs, D_Within _ 8 (by omega) (by omega)]
    simp only [Option.bind_some, asI_i]
    rw [need_d m8.1]
    refine (pick_str (vals1 (l.getD i default)) _ m8.2 _).trans ?_
    rw [show tag1 kd (l.getD i default) = tags1.getD ((l.getD i default).tag % 6).toNat [] by unfold tag1; rw [if_pos h1], show val1 kd (l.getD i default) = (vals1 (l.getD i default)).getD ((l.getD i default).value % 8).toNat [] by unfold val1; rw [if_pos h1]] at fin ⊢
    exact fin
  · rw [cond_ne h1]
    simp only [nd, Int.toNat_natCast]
    rw [show val1 kd (l.getD i default) = [] by unfold val1; rw [if_neg h1]] at fin ⊢
    by_cases h2 : kd = 2
    · rw [cond_eq h2, get_lt hi, ltAs, D_Within _ 3 (by omega) (by omega)]
      simp only [Option.bind_some, asI_i]
      rw [need_d m3.1]
      refine (pick_str tags2 _ m3.2 _).trans ?_
      rw [show tag1 kd (l.getD i default) = tags2.getD ((l.getD i default).tag % 3).toNat [] by unfold tag1; rw [if_neg h1, if_pos h2]] at fin ⊢
      exact fin
    · rw [cond_ne h2, get_lt hi, ltAs, D_Within _ 3 (by omega) (by omega)]
      simp only [Option.bind_some, asI_i]
      rw [need_d m3.1]
      refine (pick_str tags3 _ m3.2 _).trans ?_
      rw [show tag1 kd (l.getD i default) = tags3.getD ((l.getD i default).tag % 3).toNat [] by unfold tag1; rw [if_neg h1, if_neg h2]] at fin ⊢
      exact fin
end one
theorem J2_is (l : List LT) (N : Nat) (hN : 10 ≤ N) (k0 : List AV → Bool → Int → List AV → Option Res) (raw : Bool) (i : Nat) (hi : i < l.length) (hl : i ≤ 1000000) (g : List Th) (hg : g.length ≤ 1000000) : law18Graph_J2 D N k0 (ltA l) raw (i : Int) (gA g) = k0 (ltA l) raw ((i + 1 : Nat) : Int) (gA (g ++ [thOf l.length raw (l.getD i default)])) := by
  unfold law18Graph_J2
  simp only [posN_pos (show 0 < N by omega)]
  have m3 := mod_lt (l.getD i default).kind 3 (by omega)
  have m3' := Int.emod_lt_of_pos (l.getD i default).kind (show (0 : Int) < 3 by omega)
  have fin : ∀ kd, kd = kindOf raw (l.getD i default) → law18Graph_J3 D N (fun l162 b54 i160 l163 => law18Graph_J12 D N (fun l170 b58 i164 l171 => k0 l170 b58 i164 l171) l162 b54 i160 l163) (ltA l) raw (i : Int) [] (gA g) kd [] [] = k0 (ltA l) raw ((i + 1 : Nat) : Int) (gA (g ++ [thOf l.length raw (l.getD i default)])) := by
    intro kd h
    refine (J3_is l N hN _ raw i hi g hg kd).trans ?_
    unfold law18Graph_J12
    simp only [posN_pos (show 0 < N by omega)]
    rw [wrap_i64 (by omega) (by omega), show (i : Int) + 1 = ((i + 1 : Nat) : Int) by omega, h]
    rfl
  have nd : ∀ y : Option Res, need (decide (0 ≤ (i : Int))) y = y := fun y => need_d (by omega)
  simp only [nd, Int.toNat_natCast]
  rw [get_lt hi, ltAs, D_Within _ 3 (by omega) (by omega)]
  simp only [Option.bind_some, asI_i]
  rw [wrap_i64 (x := 1 + (l.getD i default).kind % 3) (by omega) (by omega)]
  cases raw
  · exact fin _ (by unfold kindOf; rw [if_neg (by simp)])
  · simp only [cond_true]
    rw [get_lt hi, ltAs, need_nd (show ¬ (5 : Nat) = 0 by omega)]
    by_cases h5 : Int.tmod (l.getD i default).kind 5 = 4
    · rw [cond_eq h5, get_lt hi, ltAs]
      exact fin _ (by unfold kindOf; rw [if_pos ⟨rfl, h5⟩])
    · rw [cond_ne h5]
      exact fin _ (by unfold kindOf; rw [if_neg (fun e => h5 e.2)])
theorem graph_loop (l : List LT) (N : Nat) (hN : 10 ≤ N) (k0 : Bool → List AV → Option Res) (raw : Bool) : ∀ (f i : Nat), 9 < i + f → i ≤ 9 → i ≤ l.length →
    law18Graph_L1 D N k0 f (ltA l) raw i (gA ((l.take i).map (thOf l.length raw))) = k0 raw (gA ((l.take 9).map (thOf l.length raw))) := by
  intro f
  induction f with
  | zero => intro i h _ _; omega
  | succ f ih =>
    intro i h hi hil
    simp only [law18Graph_L1, law18Graph_L1s]
    rw [ltA_len]
    by_cases hlt : i < l.length
    · rw [cond_d (by omega)]
      by_cases h9 : i < 9
      · rw [cond_d (by omega)]
        refine (J2_is l N hN _ raw i hlt (by omega) _ (by simp; omega)).trans ?_
        have e : (l.take i).map (thOf l.length raw) ++ [thOf l.length raw (l.getD i default)] = (l.take (i + 1)).map (thOf l.length raw) := by
          rw [List.take_succ_eq_append_getElem hlt, List.map_append]
          simp [List.getD, hlt]
        rw [e]
        exact ih (i + 1) (by omega) (by omega) (by omega)
      · rw [cond_nd (by omega), show i = 9 by omega]
    · rw [cond_nd (by omega), List.take_of_length_le (show l.length ≤ i by omega), List.take_of_length_le (show l.length ≤ 9 by omega)]

/-! Keys of mappings -/
def keyT (j : Nat) : Th := ⟨1, [33, 33, 115, 116, 114], [UInt8.ofNat (97 + j)], []⟩
def keysN : Nat → Nat → List Th
  | _, 0 => []
  | j, m + 1 => keyT j :: keysN (j + 1) m
def mixK : Nat → List Int → List Int
  | _, [] => []
  | n, k :: r => (n : Int) :: k :: mixK (n + 1) r
theorem keysN_len : ∀ (m j : Nat), (keysN j m).length = m
  | 0, _ => rfl
  | m + 1, j => by simp [keysN, keysN_len m (j + 1)]
theorem mixK_len : ∀ (ks : List Int) (n : Nat), (mixK n ks).length = 2 * ks.length
  | [], _ => rfl
  | k :: r, n => by simp [mixK, mixK_len r (n + 1)]; omega
theorem widen_loop (N : Nat) (hN : 0 < N) (k0 : Nat → Int → Nat → Int → Int → List AV → List AV → Option Res) (ks : List Int) (hk : ks.length ≤ 5) (i0 i1 i2 : Int) : ∀ (f j : Nat) (g : List Th) (L : List Int), ks.length < j + f → j ≤ ks.length → g.length ≤ 100000 + j → L.length ≤ 100000 + 2 * j →
    law18Graph_L19 D N k0 f g.length i0 L.length i1 i2 (iA ks) ks.length j (iA L) (gA g) = k0 (g ++ keysN j (ks.length - j)).length i0 (L ++ mixK g.length (ks.drop j)).length i1 i2 (iA (L ++ mixK g.length (ks.drop j))) (gA (g ++ keysN j (ks.length - j))) := by
  intro f
  induction f with
  | zero => intro j g L h _ _ _; omega
  | succ f ih =>
    intro j g L h hj hg hL
    simp only [law18Graph_L19, law18Graph_L19s]
    by_cases hlt : j < ks.length
    · rw [cond_d (by omega)]
      unfold law18Graph_J20
      simp only [posN_pos hN]
      have hw : IntKind.u8.wrap (IntKind.i64.wrap (97 + (j : Int))) = ((97 + j : Nat) : Int) := by rw [wrap_i64 (by omega) (by omega), wrap_u8 (by omega) (by omega)]; omega
      rw [need_d (by omega), hw]
      simp only [Int.toNat_natCast]
      rw [get_iA hlt]
      simp only [asI_i, List.drop_zero]
      have eL : (iA L).take L.length = iA L := List.take_of_length_le (by rw [iA_len]; omega)
      have eg : (gA g).take g.length = gA g := List.take_of_length_le (by rw [gA_len]; omega)
      rw [eL, eg, need_d (by rw [iA_len]; simp; omega), need_d2 (by omega) (by omega), need_d (by rw [gA_len]; simp; omega)]
      have e1 : iA L ++ [AV.int .i64 ((g.length : Nat) : Int), AV.int .i64 (ks.getD j 0)] = iA (L ++ [((g.length : Nat) : Int), ks.getD j 0]) := by rw [iA_app]; rfl
      have e2 : gA g ++ [AV.agg [AV.int .i64 1, AV.str ([33, 33, 115, 116, 114] : List UInt8), AV.str [UInt8.ofNat (97 + j)], AV.row 1 []]] = gA (g ++ [keyT j]) := by rw [gA_app]; rfl
      rw [e1, e2, iA_len, gA_len, wrap_i64 (by omega) (by omega), show (j : Int) + 1 = ((j + 1 : Nat) : Int) by omega]
      refine (ih (j + 1) (g ++ [keyT j]) (L ++ [((g.length : Nat) : Int), ks.getD j 0]) (by omega) (by omega) (by simp; omega) (by simp; omega)).trans ?_
      have e3 : g ++ [keyT j] ++ keysN (j + 1) (ks.length - (j + 1)) = g ++ keysN j (ks.length - j) := by
        rw [show ks.length - j = (ks.length - (j + 1)) + 1 by omega]
        simp [keysN]
      have e4 : L ++ [((g.length : Nat) : Int), ks.getD j 0] ++ mixK (g ++ [keyT j]).length (ks.drop (j + 1)) = L ++ mixK g.length (ks.drop j) := by
        rw [List.drop_eq_getElem_cons hlt]
        simp [mixK, List.getD, hlt]
      rw [e3, e4]
    · rw [cond_nd (by omega), show ks.length - j = 0 by omega, List.drop_eq_nil_of_le (by omega)]
      simp [keysN, mixK]
/-- A mapping gets keys. -/
def widen (g : List Th) (i : Nat) : List Th :=
  if (g.getD i default).kind = 3 then (g ++ keysN 0 (g.getD i default).kids.length).set i { g.getD i default with kids := mixK g.length (g.getD i default).kids } else g
def widenGo : Nat → Nat → List Th → List Th
  | 0, _, g => g
  | m + 1, i, g => widenGo m (i + 1) (widen g i)
theorem widen_len (g : List Th) (i : Nat) : g.length ≤ (widen g i).length ∧ (widen g i).length ≤ g.length + (g.getD i default).kids.length := by
  unfold widen
  split
  · rw [List.length_set, List.length_append, keysN_len]; omega
  · omega
theorem widen_get (g : List Th) (i j : Nat) (hj : j < g.length) (hij : j ≠ i) : (widen g i).getD j default = g.getD j default := by
  unfold widen
  split
  · rw [List.getD_eq_getElem?_getD, List.getElem?_set_ne (fun e => hij e.symm), List.getElem?_append_left hj, ← List.getD_eq_getElem?_getD]
  · rfl
theorem J16_is (N : Nat) (hN : 10 ≤ N) (k0 : Nat → Int → Int → List AV → Option Res) (g : List Th) (i : Nat) (hi : i < g.length) (hg : g.length ≤ 10000) (hk : (g.getD i default).kids.length ≤ 5) (i1 : Int) :
    law18Graph_J16 D N k0 g.length i1 (i : Int) (gA g) = k0 (widen g i).length i1 ((i + 1 : Nat) : Int) (gA (widen g i)) := by
  unfold law18Graph_J16
  simp only [posN_pos (show 0 < N by omega)]
  rw [need_d2 (by omega) (by omega)]
  simp only [Int.toNat_natCast, Nat.zero_add]
  rw [get_gA hi]
  have f0 : ∀ t : Th, (t.av.flat[0]?) = some (.int .i64 t.kind) := fun t => rfl
  have f3 : ∀ t : Th, (t.av.flat[3]?) = some (.row 1 (iA t.kids)) := fun t => rfl
  simp only [f0, Option.bind_some, asI_i]
  have e17 : ∀ (k : Nat → Int → Int → List AV → Option Res) (n : Nat) (lg : List AV), law18Graph_J17 D N k n i1 (i : Int) lg = k n i1 ((i + 1 : Nat) : Int) lg := by
    intro k n lg
    unfold law18Graph_J17
    simp only [posN_pos (show 0 < N by omega)]
    rw [wrap_i64 (by omega) (by omega), show (i : Int) + 1 = ((i + 1 : Nat) : Int) by omega]
  unfold widen
  by_cases h3 : (g.getD i default).kind = 3
  · rw [cond_beq h3, if_pos h3]
    unfold law18Graph_J18
    simp only [posN_pos (show 0 < N by omega)]
    rw [need_d2 (by omega) (by omega)]
    simp only [Int.toNat_natCast, Nat.zero_add]
    rw [get_gA hi]
    simp only [f3, Option.bind_some, asR_r]
    rw [iA_len]
    refine (widen_loop N (by omega) _ (g.getD i default).kids hk i i1 i N 0 g [] (by omega) (by omega) (by omega) (by simp)).trans ?_
    rw [List.drop_zero, List.nil_append, Nat.sub_zero]
    have hlt : i < (g ++ keysN 0 (g.getD i default).kids.length).length := by rw [List.length_append]; omega
    rw [need_d2 (by omega) (by omega)]
    simp only [Int.toNat_natCast, Nat.zero_add]
    rw [get_gA hlt]
    have eL : ((iA (mixK g.length (g.getD i default).kids)).drop 0).take (mixK g.length (g.getD i default).kids).length = iA (mixK g.length (g.getD i default).kids) := by
      rw [List.drop_zero, List.take_of_length_le (by rw [iA_len]; omega)]
    rw [eL]
    have eg : (g ++ keysN 0 (g.getD i default).kids.length).getD i default = g.getD i default := by
      rw [List.getD_eq_getElem?_getD, List.getElem?_append_left hi, ← List.getD_eq_getElem?_getD]
    rw [eg]
    have ns : ∀ (t : Th) (L : List AV) (y : Option Res), needSt t.av (AV.row 1 L) 3 1 y = y := fun t L y => rfl
    rw [ns, e17]
    have es : (gA (g ++ keysN 0 (g.getD i default).kids.length)).set i (.agg (putCells (g.getD i default).av.flat 3 (AV.flat (AV.row 1 (iA (mixK g.length (g.getD i default).kids)))))) = gA ((g ++ keysN 0 (g.getD i default).kids.length).set i { g.getD i default with kids := mixK g.length (g.getD i default).kids }) := by
      unfold gA
      rw [List.map_set]
      rfl
    rw [es, List.length_set]
  · rw [cond_bne h3, if_neg h3]
    exact e17 _ _ _
theorem widenGo_loop (N : Nat) (hN : 10 ≤ N) (k0 : Nat → List AV → Option Res) (n : Nat) : ∀ (f i : Nat) (g : List Th), n < i + f → i ≤ n → n ≤ g.length → g.length + 5 * (n - i) ≤ 10000 → (∀ j, i ≤ j → j < n → (g.getD j default).kids.length ≤ 5) →
    law18Graph_L15 D N k0 f g.length n i (gA g) = k0 (widenGo (n - i) i g).length (gA (widenGo (n - i) i g)) := by
  intro f
  induction f with
  | zero => intro i g h _ _ _ _; omega
  | succ f ih =>
    intro i g h hi hn hg hk
    simp only [law18Graph_L15, law18Graph_L15s]
    by_cases hlt : i < n
    · rw [cond_d (by omega)]
      have hki := hk i (by omega) hlt
      have hw := widen_len g i
      refine (J16_is N hN _ g i (by omega) (by omega) hki (n : Int)).trans ?_
      rw [show n - i = (n - (i + 1)) + 1 by omega]
      exact ih (i + 1) (widen g i) (by omega) (by omega) (by omega) (by omega) fun j h1 h2 => by
        rw [widen_get g i j (by omega) (by omega)]
        exact hk j (by omega) h2
    · rw [cond_nd (by omega), show n - i = 0 by omega]
      rfl

/-- A graph of small numbers. -/
def rawG (l : List LT) (raw : Bool) : List Th := (l.take 9).map (thOf l.length raw)
def baseG (l : List LT) : List Th := if (rawG l false).length = 0 then [⟨1, [33, 33, 115, 116, 114], [97], []⟩] else rawG l false
def graphL (l : List LT) (raw : Bool) : List Th := if raw = true then rawG l true else widenGo (baseG l).length 0 (baseG l)
theorem kidsOf_len (n : Nat) (raw : Bool) (t : LT) (kd : Int) : (kidsOf n raw t kd).length ≤ 5 := by
  unfold kidsOf
  split
  · rw [List.length_map, List.length_take]; omega
  · simp
theorem rawG_len (l : List LT) (raw : Bool) : (rawG l raw).length ≤ 9 := by unfold rawG; simp; omega
theorem rawG_kids (l : List LT) (raw : Bool) : ∀ t ∈ rawG l raw, t.kids.length ≤ 5 := by
  intro t ht
  obtain ⟨x, _, rfl⟩ := List.mem_map.1 ht
  exact kidsOf_len _ _ _ _
theorem baseG_len (l : List LT) : 1 ≤ (baseG l).length ∧ (baseG l).length ≤ 9 := by
  unfold baseG
  have := rawG_len l false
  split
  · simp
  · omega
theorem baseG_kids (l : List LT) : ∀ t ∈ baseG l, t.kids.length ≤ 5 := by
  unfold baseG
  split
  · intro t ht
    simp only [List.mem_singleton] at ht
    subst ht
    simp
  · exact rawG_kids l false
theorem D_Graph (l : List LT) (raw : Bool) : D id_law18Graph [.row 5 (ltA l), .bool raw] = some ⟨.row 4 (gA (graphL l raw)), true, []⟩ := by
  refine den_fn (N := 100) (F := law18Graph) rfl rfl ?_
  refine (law18Graph_eq D _ (ltA l) raw).trans ?_
  unfold law18Graphr
  refine (graph_loop l 100 (by omega) _ raw 100 0 (by omega) (by omega) (by omega)).trans ?_
  show (bif raw then _ else _) = _
  cases raw
  · simp only [cond_false]
    show law18Graph_J13 D 100 _ (gA (rawG l false)) = _
    have hb := baseG_len l
    have fin : law18Graph_J14 D 100 (fun n49 l290 => some ⟨AV.row 4 ((l290.drop 0).take n49), true, []⟩) (gA (baseG l)) = some ⟨.row 4 (gA (graphL l false)), true, []⟩ := by
      unfold law18Graph_J14
      simp only [posN_pos (show 0 < 100 by omega)]
      rw [gA_len]
      refine (widenGo_loop 100 (by omega) _ (baseG l).length 100 0 (baseG l) (by omega) (by omega) (by omega) (by omega) fun j _ hj => baseG_kids l _ (by simp [List.getD, hj])).trans ?_
      rw [Nat.sub_zero, List.drop_zero, List.take_of_length_le (by rw [gA_len]; omega)]
      rfl
    unfold law18Graph_J13
    simp only [posN_pos (show 0 < 100 by omega)]
    rw [gA_len]
    unfold baseG at fin
    by_cases h0 : (rawG l false).length = 0
    · rw [cond_eq (by omega)]
      rw [if_pos h0] at fin
      exact fin
    · rw [cond_ne (by omega)]
      rw [if_neg h0] at fin
      exact fin
  · simp only [cond_true]
    rw [cut_all]
    rfl
end Go.Proofs.YthdefengmkcacaaDoor.Vf
