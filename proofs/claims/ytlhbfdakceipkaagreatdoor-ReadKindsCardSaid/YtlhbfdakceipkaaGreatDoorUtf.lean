/-
  Texts as runes: what a range tells, what string(r) writes, and that the one undoes the other.
  Conditions: none.
-/
import Derived.Test.YtlhbfdakceipkaaGreatDoorVcSlice
import Derived.Test.YtlhbfdakceipkaaGreatDoorProg
import Derived.Laws.Runes
import Derived.Laws.Cover4
set_option linter.unusedVariables false
set_option maxRecDepth 100000
namespace Go.Proofs.YtlhbfdakceipkaaGreatDoor
open Vc

/-! ### Bytes as a text of the model -/
def str (bs : List UInt8) : ByteArray := ⟨bs.toArray⟩
theorem str_size (bs : List UInt8) : (str bs).size = bs.length := by unfold str; simp [ByteArray.size]
theorem str_list (bs : List UInt8) : (str bs).data.toList = bs := by unfold str; simp
theorem str_of (s : ByteArray) : str s.data.toList = s := by unfold str; cases s; simp
theorem str_app (a b : List UInt8) : str a ++ str b = str (a ++ b) := by
  apply ByteArray.ext
  simp [str]
theorem str_inj {a b : List UInt8} (h : str a = str b) : a = b := by
  have := congrArg (fun s => s.data.toList) h
  simpa [str_list] using this
theorem ba_len (s : ByteArray) : s.data.toList.length = s.size := Array.length_toList
theorem str_nil : str [] = ByteArray.empty := rfl

/-! ### One rune -/
theorem bytes_beq (x y : ByteArray) : (x.toList == y.toList) = decide (x = y) := by
  rw [ByteArray.toList_eq, ByteArray.toList_eq]
  by_cases h : x = y
  · subst h; simp
  · rw [decide_eq_false h]
    have : x.data.toList ≠ y.data.toList := fun t => h (by cases x; cases y; simpa using t)
    simpa using this

theorem str_beq (x y : List UInt8) : ((str x).toList == (str y).toList) = decide (x = y) := by
  rw [bytes_beq]
  exact decide_eq_decide.2 ⟨str_inj, fun h => by rw [h]⟩

theorem get_list (s : ByteArray) (k : Nat) : s.get! k = s.data.toList.getD k 0 := by
  cases s with
  | mk d =>
    show d[k]! = d.toList.getD k 0
    by_cases h : k < d.size
    · rw [getElem!_pos d k h]; simp [List.getD, h]
    · rw [getElem!_neg d k h]; simp [List.getD, h]; rfl
theorem dec_eq {s t : ByteArray} {i j : Nat} (hg : ∀ k, s.get! (i + k) = t.get! (j + k)) (hs : ∀ k, (i + k < s.size) = (j + k < t.size)) : Utf8.decode s i = Utf8.decode t j := by
  simp only [Utf8.decode, hg, hs]

def decL (l : List UInt8) : Nat × Nat := Utf8.decode (str l) 0
theorem decL_drop (s : ByteArray) (pos : Nat) : Utf8.decode s pos = decL (s.data.toList.drop pos) := by
  unfold decL
  refine dec_eq (fun k => ?_) (fun k => propext ?_)
  · rw [get_list, get_list, str_list]
    simp [List.getD, List.getElem?_drop]
  · rw [str_size, List.length_drop, Array.length_toList]
    show pos + k < s.data.size ↔ _
    omega

theorem decL_width (l : List UInt8) : 1 ≤ (decL l).2 := by
  simp only [decL, Utf8.decode]
  repeat' split
  all_goals simp

def runesF : Nat → List UInt8 → List Int
  | 0, _ => []
  | f + 1, l => if l = [] then [] else ((decL l).1 : Int) :: runesF f (l.drop (decL l).2)
def runesL (l : List UInt8) : List Int := runesF l.length l

theorem runesF_nil : ∀ n, runesF n [] = []
  | 0 => rfl
  | _ + 1 => by simp [runesF]
theorem runesF_fuel : ∀ (n m : Nat) (l : List UInt8), l.length ≤ n → l.length ≤ m → runesF n l = runesF m l
  | 0, m, l, hn, _ => by
    have : l = [] := List.eq_nil_of_length_eq_zero (by omega)
    subst this
    rw [runesF_nil, runesF_nil]
  | n + 1, 0, l, _, hm => by
    have : l = [] := List.eq_nil_of_length_eq_zero (by omega)
    subst this
    rw [runesF_nil, runesF_nil]
  | n + 1, m + 1, l, hn, hm => by
    by_cases hne : l = []
    · subst hne
      rw [runesF_nil, runesF_nil]
    · have hw := decL_width l
      have hl : 0 < l.length := List.length_pos_iff.2 hne
      simp only [runesF, if_neg hne]
      rw [runesF_fuel n m _ (by rw [List.length_drop]; omega) (by rw [List.length_drop]; omega)]
theorem runesL_nil : runesL [] = [] := rfl
theorem runesL_step (l : List UInt8) (hne : l ≠ []) : runesL l = ((decL l).1 : Int) :: runesL (l.drop (decL l).2) := by
  have hw := decL_width l
  have hl : 0 < l.length := List.length_pos_iff.2 hne
  unfold runesL
  obtain ⟨n, hn⟩ : ∃ n, l.length = n + 1 := ⟨l.length - 1, by omega⟩
  rw [hn]
  simp only [runesF, if_neg hne]
  rw [runesF_fuel n _ _ (by rw [List.length_drop]; omega) (Nat.le_refl _)]
theorem runesL_ne {l : List UInt8} (h : runesL l = []) : l = [] := by
  by_cases hne : l = []
  · exact hne
  · rw [runesL_step l hne] at h; cases h

def okR (r : Int) : Prop := (0 ≤ r ∧ r < 55296) ∨ (57344 ≤ r ∧ r ≤ 1114111)
theorem okR_valid {r : Int} (h : okR r) : Utf8.valid r = true := by
  unfold okR at h
  unfold Utf8.valid
  simpa using h
theorem okR_dec (l : List UInt8) : okR ((decL l).1 : Int) := by
  have hb : ∀ k, ((str l).get! (0 + k)).toNat < 256 := fun k => ((str l).get! (0 + k)).toNat_lt
  have h0 := hb 0
  unfold okR
  simp only [decL, Utf8.decode]
  repeat' split
  all_goals simp_all [Utf8.runeError, Utf8.valid]
  all_goals omega
theorem okR_runesF : ∀ (n : Nat) (l : List UInt8), ∀ c ∈ runesF n l, okR c
  | 0, l, c, hc => by simp [runesF] at hc
  | n + 1, l, c, hc => by
    unfold runesF at hc
    split at hc
    · simp at hc
    · rcases List.mem_cons.1 hc with h | h
      · rw [h]; exact okR_dec l
      · exact okR_runesF n _ c h
theorem okR_runes (l : List UInt8) : ∀ c ∈ runesL l, okR c := okR_runesF _ _
theorem runesF_len : ∀ (n : Nat) (l : List UInt8), (runesF n l).length ≤ l.length
  | 0, l => by simp [runesF]
  | n + 1, l => by
    unfold runesF
    split
    · simp
    · rename_i hne
      have hw := decL_width l
      have := runesF_len n (l.drop (decL l).2)
      rw [List.length_drop] at this
      have hl : 0 < l.length := List.length_pos_iff.2 hne
      simp only [List.length_cons]
      omega
theorem runesL_len (l : List UInt8) : (runesL l).length ≤ l.length := runesF_len _ _

def enc (r : Int) : List UInt8 := (Utf8.encode r).data.toList
def txt (rs : List Int) : List UInt8 := rs.flatMap enc
theorem txt_cons (r : Int) (rs : List Int) : txt (r :: rs) = enc r ++ txt rs := by unfold txt; rw [List.flatMap_cons]
theorem txt_append (a b : List Int) : txt (a ++ b) = txt a ++ txt b := by unfold txt; rw [List.flatMap_append]
theorem txt_one (r : Int) : txt [r] = enc r := by unfold txt; simp
theorem txt_nil : txt [] = [] := rfl

theorem u8_of {n : Nat} (h : n < 256) : (UInt8.ofNat n).toNat = n := by
  rw [UInt8.toNat_ofNat']; exact Nat.mod_eq_of_lt h

theorem enc_eq (n : Nat) (h : okR (n : Int)) : enc (n : Int) = if n < 128 then [UInt8.ofNat n] else if n < 2048 then [UInt8.ofNat (192 + n / 64), UInt8.ofNat (128 + n % 64)] else
    if n < 65536 then [UInt8.ofNat (224 + n / 4096), UInt8.ofNat (128 + n / 64 % 64), UInt8.ofNat (128 + n % 64)] else [UInt8.ofNat (240 + n / 262144), UInt8.ofNat (128 + n / 4096 % 64), UInt8.ofNat (128 + n / 64 % 64), UInt8.ofNat (128 + n % 64)] := by
  unfold enc Utf8.encode
  simp only [okR_valid h, if_true, Int.toNat_natCast]
  split
  · rfl
  split
  · rfl
  split <;> rfl

theorem dec_enc (r : Int) (h : okR r) (t : List UInt8) : decL (enc r ++ t) = (r.toNat, (enc r).length) := by
  obtain ⟨n, rfl⟩ : ∃ n : Nat, r = n := ⟨r.toNat, by unfold okR at h; omega⟩
  have hv := okR_valid h
  rw [Int.toNat_natCast, enc_eq n h]
  unfold okR at h
  split
  · simp only [decL, Utf8.decode, get_list, str_list, str_size, List.cons_append, List.nil_append, List.getD_cons_zero, List.length_cons, List.length_nil, Nat.add_zero]
    rw [u8_of (by omega), if_pos (by omega)]
  split
  · simp only [decL, Utf8.decode, get_list, str_list, str_size, List.cons_append, List.nil_append, List.getD_cons_zero, List.getD_cons_succ, List.length_cons, List.length_nil, Nat.add_zero, Nat.zero_add]
    rw [u8_of (n := 192 + n / 64) (by omega), u8_of (n := 128 + n % 64) (by omega)]
    have e : (192 + n / 64) % 32 * 64 + (128 + n % 64) % 64 = n := by omega
    rw [e, if_neg (by omega), if_pos (by simp; omega), if_pos (by omega)]
  split
  · simp only [decL, Utf8.decode, get_list, str_list, str_size, List.cons_append, List.nil_append, List.getD_cons_zero, List.getD_cons_succ, List.length_cons, List.length_nil, Nat.add_zero, Nat.zero_add]
    rw [u8_of (n := 224 + n / 4096) (by omega), u8_of (n := 128 + n / 64 % 64) (by omega), u8_of (n := 128 + n % 64) (by omega)]
    have e : (224 + n / 4096) % 16 * 4096 + (128 + n / 64 % 64) % 64 * 64 + (128 + n % 64) % 64 = n := by omega
    rw [e, if_neg (by omega), if_neg (by simp; omega), if_pos (by simp; omega), if_pos (by rw [hv]; simp; omega)]
  · simp only [decL, Utf8.decode, get_list, str_list, str_size, List.cons_append, List.nil_append, List.getD_cons_zero, List.getD_cons_succ, List.length_cons, List.length_nil, Nat.add_zero, Nat.zero_add]
    rw [u8_of (n := 240 + n / 262144) (by omega), u8_of (n := 128 + n / 4096 % 64) (by omega), u8_of (n := 128 + n / 64 % 64) (by omega), u8_of (n := 128 + n % 64) (by omega)]
    have e : (240 + n / 262144) % 8 * 262144 + (128 + n / 4096 % 64) % 64 * 4096 + (128 + n / 64 % 64) % 64 * 64 + (128 + n % 64) % 64 = n := by omega
    rw [e, if_neg (by omega), if_neg (by simp; omega), if_neg (by simp; omega), if_pos (by simp; omega), if_pos (by rw [hv]; simp; omega)]

theorem enc_size (r : Int) : 1 ≤ (Utf8.encode r).size := by
  unfold Utf8.encode
  dsimp only
  generalize (if Utf8.valid r = true then r.toNat else Utf8.runeError) = c
  split
  · exact Nat.le_refl 1
  split
  · exact Nat.le_succ 1
  split
  · exact Nat.succ_le_of_lt (Nat.succ_pos 2)
  · exact Nat.succ_le_of_lt (Nat.succ_pos 3)
theorem enc_pos (r : Int) : enc r ≠ [] := by
  intro h
  have := enc_size r
  have h2 : (Utf8.encode r).size = (enc r).length := by unfold enc; rw [Array.length_toList]; rfl
  rw [h2, h] at this
  simp at this
theorem enc_len (r : Int) : 1 ≤ (enc r).length ∧ (enc r).length ≤ 4 := by
  constructor
  · exact List.length_pos_iff.2 (enc_pos r)
  · have := encode_size_le r
    have h2 : (Utf8.encode r).size = (enc r).length := by unfold enc; rw [Array.length_toList]; rfl
    omega
theorem runes_enc (r : Int) (h : okR r) (t : List UInt8) : runesL (enc r ++ t) = r :: runesL t := by
  rw [runesL_step _ (by have := enc_pos r; simp [this]), dec_enc r h, List.drop_left]
  have : 0 ≤ r := by unfold okR at h; omega
  congr 1
  omega
theorem runes_txt : ∀ (rs : List Int) (t : List UInt8), (∀ r ∈ rs, okR r) → runesL (txt rs ++ t) = rs ++ runesL t
  | [], t, _ => rfl
  | r :: rs, t, h => by
    rw [txt_cons, List.append_assoc, runes_enc r (h r (by simp)), runes_txt rs t (fun c hc => h c (by simp [hc]))]
    rfl
theorem runes_txt0 (rs : List Int) (h : ∀ r ∈ rs, okR r) : runesL (txt rs) = rs := by
  have := runes_txt rs [] h
  rwa [List.append_nil, runesL_nil, List.append_nil] at this
theorem txt_len (rs : List Int) : rs.length ≤ (txt rs).length ∧ (txt rs).length ≤ 4 * rs.length := by
  induction rs with
  | nil => simp [txt]
  | cons r rs ih =>
    have := enc_len r
    rw [txt_cons, List.length_append, List.length_cons]
    omega

/-! ### Texts of the model -/
theorem enc_str (r : Int) : Utf8.encode r = str (enc r) := by unfold enc; rw [str_of]
theorem runesBytes_txt (ns : List Int) : runesBytes ns = str (txt ns) := by
  have key : ∀ (ns : List Int) (a : List UInt8), ns.foldl (fun r n => r ++ Utf8.encode n) (str a) = str (a ++ txt ns) := by
    intro ns
    induction ns with
    | nil => intro a; simp [txt]
    | cons n ns ih =>
      intro a
      rw [List.foldl_cons, enc_str, str_app, ih, txt_cons, List.append_assoc]
  unfold runesBytes
  rw [← str_nil, key, List.nil_append]

/-- A round over a text: what it will tell. -/
def IsIt (w : World) (r : Nat) (rs : List Int) : Prop := ∃ s pos, w.heap[r]? = some (.stringIter s pos) ∧ runesL (s.data.toList.drop pos) = rs

theorem IsIt.keep {w w' : World} {r : Nat} {rs : List Int} (h : IsIt w r rs) {S : Nat → Prop} (f : Fr S w w') (hn : ¬ S r) : IsIt w' r rs := by
  obtain ⟨s, pos, a, b⟩ := h
  exact ⟨s, pos, f.keep a hn, b⟩
theorem IsIt.keep0 {w w' : World} {r : Nat} {rs : List Int} (h : IsIt w r rs) (f : Fr none1 w w') : IsIt w' r rs := h.keep f (fun t => t)
theorem IsIt.lt {w : World} {r : Nat} {rs : List Int} (h : IsIt w r rs) : r < w.heap.size := by
  obtain ⟨s, pos, a, b⟩ := h
  exact lt_of_blk a

theorem range_ok {w : World} {t : TypeId} (ht : Tryz.prog.underlying t = some .string) (s : ByteArray) {K : Option Addr → World → Prop}
    (hK : ∀ r w1, r = w.heap.size → IsIt w1 r (runesL s.data.toList) → Fr none1 w w1 → K (some ⟨r, 0, none⟩) w1) : RunK Tryz.prog (Instr.range t (.string s)) w (.v (.one .ptr)) K := by
  refine ⟨some ⟨w.heap.size, 0, none⟩, { w with heap := w.heap.push (.stringIter s 0) }, ?_, hK _ _ rfl ⟨s, 0, Array.getElem?_push_size .., by rw [List.drop_zero]⟩ (push_fr _ _)⟩
  unfold Instr.range
  simp only [Sem.run_bind, under ht, Result.andThen_ok, Sem.run_pure, run_newObj]
  rfl

theorem next_ok {w : World} {r : Nat} {rs : List Int} (h : IsIt w r rs) {yes : Int → Int → World → Prop} {no : Prop}
    (hy : ∀ c rest pos w1, rs = c :: rest → okR c → IsIt w1 r rest → Fr (only r) w w1 → yes pos c w1) (hn : rs = [] → no) : NextK (some ⟨r, 0, none⟩) w yes no := by
  obtain ⟨s, pos, hb, rfl⟩ := h
  refine ⟨r, s, pos, rfl, hb, ?_⟩
  have hsz : s.size = s.data.toList.length := by rw [Array.length_toList]; rfl
  split
  · rename_i hlt
    have hne : s.data.toList.drop pos ≠ [] := fun t => by
      have := congrArg List.length t
      rw [List.length_drop, List.length_nil] at this
      omega
    have hst := runesL_step _ hne
    rw [← decL_drop, List.drop_drop] at hst
    refine hy _ _ _ _ hst ?_ ⟨s, _, ?_, rfl⟩ ?_
    · have := okR_dec (s.data.toList.drop pos)
      rwa [← decL_drop] at this
    · have := lt_of_blk hb
      exact Array.getElem?_setIfInBounds_self_of_lt this
    · refine ⟨rfl, rfl, rfl, by simp, fun k hk hn => ?_⟩
      have : r ≠ k := fun e => hn e.symm
      exact Array.getElem?_setIfInBounds_ne this
  · rename_i hge
    refine hn ?_
    rw [List.drop_of_length_le (by omega)]
    rfl

theorem strOf_ok {w : World} {src dst : TypeId} {k : IntKind} (n : Int) (hs : (Tryz.prog.underlying src).isSome = true) (hd : Tryz.prog.underlying dst = some .string) {K : ByteArray → World → Prop} (hK : K (str (enc n)) w) :
    RunK Tryz.prog (convert src dst (.int k n)) w (.v (.one .str)) K := by
  refine ⟨str (enc n), w, ?_, hK⟩
  rw [run_convert_int_string w src dst k n hs hd, enc_str]
  rfl

end Go.Proofs.YtlhbfdakceipkaaGreatDoor
