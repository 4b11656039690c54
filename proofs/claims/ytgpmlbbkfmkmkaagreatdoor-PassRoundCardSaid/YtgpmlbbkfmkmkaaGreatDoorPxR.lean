import Derived.Test.YtgpmlbbkfmkmkaaGreatDoorPxO
import Derived.Test.YtgpmlbbkfmkmkaaGreatDoorPxJ
import Derived.Lib.AtoiAllCases
import Derived.Test.YtgpmlbbkfmkmkaaGreatDoorPxQ
set_option linter.all false
set_option maxRecDepth 10000
namespace Go.PX
open Go.Proofs
def In18 (n : Int) : Prop := -1000000000000000000 ≤ n ∧ n ≤ 1000000000000000000
theorem nameF_size {s : ByteArray} (h : nameF s = true) : s.size ≤ 14 := by
 unfold nameF at h
 rw [Bool.and_eq_true, inB_iff] at h
 omega
def cleanL (l : List UInt8) : Prop := ∀ x ∈ l, x ≠ 32 ∧ x ≠ 10
theorem u8_nat (k : Nat) (h : k < 10) : (UInt8.ofNat (48 + k)).toNat = 48 + k := by
 rw [UInt8.toNat_ofNat']
 omega
theorem decF_digits : ∀ (f u : Nat), ∀ x ∈ decF f u, 48 ≤ x.toNat ∧ x.toNat ≤ 57
 | 0, _, x, hx => by cases hx
 | f + 1, u, x, hx => by
  rw [decF] at hx
  split at hx
  ·rename_i h
   simp only [List.mem_singleton] at hx
   subst hx
   rw [u8_nat u h]; omega
  ·rcases List.mem_append.1 hx with hx | hx
   ·exact decF_digits f _ x hx
   ·simp only [List.mem_singleton] at hx
    subst hx
    rw [u8_nat _ (by omega)]; omega
theorem decF_ne : ∀ (f u : Nat), 0 < f → decF f u ≠ []
 | f + 1, u, _ => by
  rw [decF]
  split <;> simp
theorem decF_short : ∀ (f k u : Nat), u < 10 ^ k → 0 < k → (decF f u).length ≤ k
 | 0, k, u, _, _ => Nat.zero_le _
 | f + 1, k, u, hu, hk => by
  rw [decF]
  split
  ·simp; omega
  ·rename_i h
   obtain ⟨k, rfl⟩ : ∃ j, k = j + 1 := ⟨k - 1, by omega⟩
   have h2 : u / 10 < 10 ^ k := by
    rw [Nat.pow_succ] at hu
    exact Nat.div_lt_of_lt_mul (by omega)
   have hk0 : 0 < k := by
    rcases Nat.eq_zero_or_pos k with rfl | h3
    ·simp at h2; omega
    ·exact h3
   have := decF_short f k (u / 10) h2 hk0
   simp; omega
theorem parse_dec : ∀ (f u : Nat) (r : List UInt8), 0 < f → u < 10 ^ f → u ≤ 1000000000000000000 → Lib.parseUint10 0 (decF f u ++ r) = Lib.parseUint10 u r
 | f + 1, u, r, _, hu, hb => by
  rw [decF]
  by_cases h : u < 10
  ·rw [if_pos h]
   show Lib.parseUint10 0 (UInt8.ofNat (48 + u) :: r) = _
   rw [Lib.parseUint10, u8_nat u h, if_pos (by omega), if_neg (by omega), if_neg (by omega)]
   congr 1; omega
  ·rw [if_neg h]
   have h2 : u / 10 < 10 ^ f := by
    rw [Nat.pow_succ] at hu
    exact Nat.div_lt_of_lt_mul (by omega)
   have hf : 0 < f := by
    rcases Nat.eq_zero_or_pos f with rfl | h3
    ·simp at h2; omega
    ·exact h3
   rw [List.append_assoc, parse_dec f (u / 10) _ hf h2 (by omega)]
   show Lib.parseUint10 (u / 10) (UInt8.ofNat (48 + u % 10) :: r) = _
   rw [Lib.parseUint10, u8_nat _ (by omega), if_pos (by omega), if_neg (by omega), if_neg (by omega)]
   congr 1; omega
theorem atoi_num {n : Int} (h : In18 n) : atoiX (numB n) = some n := by
  have hb : ∀ u : Nat, u ≤ 1000000000000000000 → Lib.parseMag (decF 19 u) = .ok u := by
    intro u hu
    unfold Lib.parseMag
    rw [if_neg (decF_ne 19 u (by omega))]
    have := parse_dec 19 u [] (by omega) (by have : (10 : Nat) ^ 19 = 10000000000000000000 := by decide
                                             omega) hu
    rw [List.append_nil] at this
    rw [this]; rfl
  unfold In18 at h
  have hd : (numB n).data.toList = numL n := rfl
  unfold atoiX
  rw [hd]
  have ha : Lib.atoiAll (numL n) = .ok n := by
    unfold numL
    split
    · rename_i hn
      show Lib.atoiAll (45 :: decF 19 n.natAbs) = _
      unfold Lib.atoiAll
      have e45 : (45 : UInt8).toNat = 45 := rfl
      simp only [e45, or_true, if_true]
      rw [hb n.natAbs (by omega)]
      simp only [not_true, false_and, if_false, true_and, if_true]
      rw [if_neg (by omega)]
      congr 1; omega
    · rename_i hn
      have hne := decF_ne 19 n.toNat (by omega)
      have hdg := decF_digits 19 n.toNat
      have hbb := hb n.toNat (by omega)
      generalize decF 19 n.toNat = l at hne hdg hbb
      match l, hne with
      | c :: r, _ =>
        have hc := hdg c (List.mem_cons_self ..)
        rw [Lib.atoiAll_plain c r (by omega) (by omega), hbb]
        unfold Lib.signless
        simp only
        rw [if_neg (by omega)]
        congr 1; omega
  rw [ha]
theorem numL_clean (n : Int) : cleanL (numL n) := by
 have hd : ∀ u, cleanL (decF 19 u) := fun u x hx => by
  have := decF_digits 19 u x hx
  constructor <;> (rintro rfl; revert this; decide)
 unfold numL
 split
 ·intro x hx
  rcases List.mem_cons.1 hx with rfl | hx
  ·decide
  ·exact hd _ x hx
 ·exact hd _
theorem numB_short {n : Int} (h : -999999 ≤ n ∧ n ≤ 999999) : (numB n).size ≤ 7 := by
 show (numL n).toArray.size ≤ 7
 rw [List.size_toArray]
 have e : (10 : Nat) ^ 6 = 1000000 := by decide
 unfold numL
 split
 ·have := decF_short 19 6 n.natAbs (by omega) (by omega); simp; omega
 ·have := decF_short 19 6 n.toNat (by omega) (by omega); omega
theorem nameL_clean (b : List UInt8) : ∀ (l : List UInt8) (i : Nat), nameL b i l = true → cleanL l
 | [], _, _, x, hx => by cases hx
 | c :: r, i, h, x, hx => by
  rw [nameL, Bool.and_eq_true] at h
  rcases List.mem_cons.1 hx with rfl | hx
  ·have h1 := h.1
   unfold okAt at h1
   have : 97 ≤ x.toNat ∨ x.toNat = 45 := by
    simp only [Bool.or_eq_true, Bool.and_eq_true, decide_eq_true_eq] at h1
    omega
   constructor <;> (rintro rfl; revert this; decide)
  ·exact nameL_clean b r (i + 1) h.2 x hx
theorem nameF_clean {s : ByteArray} (h : nameF s = true) : cleanL s.data.toList := by
 unfold nameF at h
 rw [Bool.and_eq_true] at h
 exact nameL_clean _ _ _ h.2
theorem cut1_line : ∀ (b r : List UInt8), (∀ x ∈ b, x ≠ 10) → cut1 10 (b ++ 10 :: r) = (b, r, true)
 | [], r, _ => by simp [cut1]
 | x :: b, r, h => by
  have hx := h x (List.mem_cons_self ..)
  rw [List.cons_append, cut1, if_neg hx, cut1_line b r fun y hy => h y (List.mem_cons_of_mem _ hy)]
theorem splitL_one (a : List UInt8) (h : cleanL a) : splitL 32 a = [a] := by
 induction a with
 | nil => rfl
 | cons x r ih =>
  rw [splitL, if_neg (h x (List.mem_cons_self ..)).1, ih fun y hy => h y (List.mem_cons_of_mem _ hy)]
  rfl
theorem splitL_cons (a r : List UInt8) (h : cleanL a) : splitL 32 (a ++ 32 :: r) = a :: splitL 32 r := by
 induction a with
 | nil => simp [splitL]
 | cons x t ih =>
  rw [List.cons_append, splitL, if_neg (h x (List.mem_cons_self ..)).1, ih fun y hy => h y (List.mem_cons_of_mem _ hy)]
  rfl
def Wd.l (w : Wd) : List UInt8 := w.b.data.toList
def tailL (l : List Wd) : List UInt8 := l.flatMap fun w => 32 :: w.l
def wordsL : List Wd → List UInt8
 | [] => []
 | w :: r => w.l ++ tailL r
def cleanW (l : List Wd) : Prop := ∀ w ∈ l, cleanL w.l
theorem wdN_clean (n : Int) : cleanL (Wd.n n).l := numL_clean n
theorem splitL_tail : ∀ (l : List Wd) (a : List UInt8), cleanL a → cleanW l → splitL 32 (a ++ tailL l) = a :: l.map Wd.l
 | [], a, h, _ => by
  show splitL 32 (a ++ []) = _
  rw [List.append_nil, splitL_one a h]; rfl
 | w :: r, a, h, hr => by
  show splitL 32 (a ++ (32 :: w.l ++ tailL r)) = _
  rw [List.cons_append, splitL_cons a _ h, splitL_tail r w.l (hr w (List.mem_cons_self ..)) fun x hx => hr x (List.mem_cons_of_mem _ hx)]; rfl
theorem tailW_toL : ∀ l : List Wd, (tailW l).data.toList = tailL l
 | [] => rfl
 | w :: r => by
  rw [tailW]
  simp only [ByteArray.data_append, Array.toList_append, tailW_toL r]
  rfl
theorem rowT_toL : ∀ l : List Wd, (rowT l).data.toList = wordsL l ++ [10]
 | [] => rfl
 | w :: r => by
  rw [rowT, wordsW]
  simp only [ByteArray.data_append, Array.toList_append, tailW_toL r]
  rfl
theorem words_no10 {l : List Wd} (h : cleanW l) : ∀ x ∈ wordsL l, x ≠ 10 := by
 cases l with
 | nil => intro x hx; cases hx
 | cons w r =>
  intro x hx
  rcases List.mem_append.1 hx with hx | hx
  ·exact (h w (List.mem_cons_self ..) x hx).2
  ·obtain ⟨u, hu, hx⟩ := List.mem_flatMap.1 hx
   rcases List.mem_cons.1 hx with rfl | hx
   ·decide
   ·exact (h u (List.mem_cons_of_mem _ hu) x hx).2
theorem pieces_row {w : Wd} {r : List Wd} (h : cleanW (w :: r)) : piecesB 32 ⟨(wordsL (w :: r)).toArray⟩ = (w :: r).map Wd.b := by
 show (splitL 32 (w.l ++ tailL r)).map _ = _
 rw [splitL_tail r w.l (h w (List.mem_cons_self ..)) fun x hx => h x (List.mem_cons_of_mem _ hx)]
 show ((w :: r).map Wd.l).map _ = _
 rw [List.map_map]
 rfl
theorem readL_row {c c' : PLog} {w : Wd} {r : List Wd} (z : List UInt8) (h : cleanW (w :: r)) (ht : takeP c ((w :: r).map Wd.b) = some c') : readL c (wordsL (w :: r) ++ 10 :: z) = readL c' z := by
 rw [readL_eq, if_neg (by simp), cut1_line _ _ (words_no10 h)]
 simp only [if_pos, pieces_row h, ht]
theorem clean_of {b : ByteArray} {l : List UInt8} (h : b.data.toList = l) (hl : ∀ x ∈ l, x ≠ 32 ∧ x ≠ 10) : cleanL b.data.toList := by rw [h]; exact hl
theorem nearW_clean : cleanL nearW.data.toList := clean_of (l := [110, 101, 97, 114]) rfl (by decide)
theorem bookW_clean : cleanL bookW.data.toList := clean_of (l := [98, 111, 111, 107]) rfl (by decide)
theorem passW_clean : cleanL passW.data.toList := clean_of (l := [112, 97, 115, 115]) rfl (by decide)
theorem setW_clean : cleanL setW.data.toList := clean_of (l := [115, 101, 116]) rfl (by decide)
theorem reportW_clean : cleanL reportW.data.toList := clean_of (l := [114, 101, 112, 111, 114, 116]) rfl (by decide)
structure EntW (x : PEnt) : Prop where
 sh : In18 x.shown
 no : In18 x.number
 kind : (x.kind = 1 ∧ nameF x.word = true ∧ x.number = 0) ∨ (x.kind = 2 ∧ x.word = .empty ∧ x.number = 0) ∨ (x.kind = 3 ∧ nameF x.word = true)
structure BookW (b : PBook) : Prop where
 name : nameF b.name = true
 ol : In18 b.off.lo
 oh : In18 b.off.hi
 sl : In18 b.set.lo
 sh : In18 b.set.hi
 ents : ∀ x ∈ b.ents, EntW x
theorem bookWs_clean {b : PBook} (h : BookW b) : cleanW (bookWs b) := by
 intro w hw
 simp only [bookWs, List.mem_cons, List.not_mem_nil, or_false] at hw
 rcases hw with rfl | rfl | rfl | rfl | rfl | rfl
 ·exact bookW_clean
 ·exact nameF_clean h.name
 all_goals exact wdN_clean _
theorem take_book {l : PLog} {b : PBook} (h : BookW b) : takeP l ((bookWs b).map Wd.b) = some { l with books := l.books ++ [{ b with ents := [] }] } := by
 show takeP l (bookW :: [b.name, numB b.off.lo, numB b.off.hi, numB b.set.lo, numB b.set.hi]) = _
 rw [takeP_cons, if_pos rfl]
 unfold bookF four
 simp only [atoi_num h.ol, atoi_num h.oh, atoi_num h.sl, atoi_num h.sh]
 rfl
theorem entWs_clean {x : PEnt} (h : EntW x) : cleanW (entWs x) := by
 intro w hw
 unfold entWs at hw
 rcases h.kind with ⟨h1, h2, h3⟩ | ⟨h1, h2, h3⟩ | ⟨h1, h2⟩
 ·rw [if_pos h1] at hw
  simp only [List.mem_cons, List.not_mem_nil, or_false] at hw
  rcases hw with rfl | rfl | rfl
  ·exact passW_clean
  ·exact wdN_clean _
  ·exact nameF_clean h2
 ·rw [if_neg (by omega), if_pos h1] at hw
  simp only [List.mem_cons, List.not_mem_nil, or_false] at hw
  rcases hw with rfl | rfl
  ·exact setW_clean
  ·exact wdN_clean _
 ·rw [if_neg (by omega), if_neg (by omega)] at hw
  simp only [List.mem_cons, List.not_mem_nil, or_false] at hw
  rcases hw with rfl | rfl | rfl | rfl
  ·exact reportW_clean
  ·exact wdN_clean _
  ·exact nameF_clean h2
  ·exact wdN_clean _
theorem take_ent {n : Int} {init : List PBook} {b : PBook} {x : PEnt} (h : EntW x) : takeP ⟨n, init ++ [b]⟩ ((entWs x).map Wd.b) = some ⟨n, init ++ [{ b with ents := b.ents ++ [x] }]⟩ := by
 have hne : (⟨n, init ++ [b]⟩ : PLog).books ≠ [] := by simp
 obtain ⟨sh, kd, wd, no⟩ := x
 have hs := h.sh
 have hn := h.no
 unfold entWs
 rcases h.kind with ⟨h1, h2, h3⟩ | ⟨h1, h2, h3⟩ | ⟨h1, h2⟩
 ·simp only at h1 h2 h3 hs hn
  subst h1 h3
  show takeP _ (passW :: [numB sh, wd]) = _
  rw [takeP_cons, if_neg (by decide), if_neg hne]
  unfold entF
  simp only [atoi_num hs, if_pos, Option.map_some]
  rw [addB_last]
 ·simp only at h1 h2 h3 hs hn
  subst h1 h2 h3
  show takeP _ (setW :: [numB sh]) = _
  rw [takeP_cons, if_neg (by decide), if_neg hne]
  unfold entF
  simp only [atoi_num hs, if_neg (show ¬ setW = passW by decide), if_pos, Option.map_some]
  rw [addB_last]
 ·simp only at h1 h2 hs hn
  subst h1
  show takeP _ (reportW :: [numB sh, wd, numB no]) = _
  rw [takeP_cons, if_neg (by decide), if_neg hne]
  unfold entF
  simp only [atoi_num hs, atoi_num hn, if_neg (show ¬ reportW = passW by decide), if_neg (show ¬ reportW = setW by decide), if_pos, Option.map_some]
  rw [addB_last]
theorem entWs_ne (x : PEnt) : ∃ w r, entWs x = w :: r := by
 unfold entWs
 repeat' split
 all_goals exact ⟨_, _, rfl⟩
theorem read_ents {n : Int} {init : List PBook} : ∀ (r : List PEnt) (b : PBook) (z : List UInt8), (∀ x ∈ r, EntW x) → readL ⟨n, init ++ [b]⟩ ((entsT r).data.toList ++ z) = readL ⟨n, init ++ [{ b with ents := b.ents ++ r }]⟩ z
 | [], b, z, _ => by
  show readL _ ([] ++ z) = _
  rw [List.append_nil]; rfl
 | x :: r, b, z, h => by
  have hx := h x (List.mem_cons_self ..)
  have ih := read_ents (n := n) (init := init) r { b with ents := b.ents ++ [x] } z fun q hq => h q (List.mem_cons_of_mem _ hq)
  obtain ⟨w, q, hw⟩ := entWs_ne x
  have hc := entWs_clean hx
  have ht := take_ent (n := n) (init := init) (b := b) hx
  rw [entsT]
  simp only [ByteArray.data_append, Array.toList_append, rowT_toL, List.append_assoc]
  rw [hw] at hc ht ⊢
  show readL _ (wordsL (w :: q) ++ 10 :: ((entsT r).data.toList ++ z)) = _
  rw [readL_row _ hc ht, ih]
  simp
theorem read_books {n : Int} : ∀ (bs init : List PBook) (z : List UInt8), (∀ b ∈ bs, BookW b) → readL ⟨n, init⟩ ((booksT bs).data.toList ++ z) = readL ⟨n, init ++ bs⟩ z
 | [], init, z, _ => by
  show readL _ ([] ++ z) = _
  rw [List.append_nil]; rfl
 | b :: r, init, z, h => by
  have hb := h b (List.mem_cons_self ..)
  have ih := read_books (n := n) r (init ++ [b]) z fun q hq => h q (List.mem_cons_of_mem _ hq)
  have hc := bookWs_clean hb
  have ht := take_book (l := ⟨n, init⟩) hb
  rw [booksT, bookT]
  simp only [ByteArray.data_append, Array.toList_append, rowT_toL, List.append_assoc]
  show readL _ (wordsL (bookWs b) ++ 10 :: ((entsT b.ents).data.toList ++ ((booksT r).data.toList ++ z))) = _
  refine (readL_row _ hc ht).trans ?_
  simp only
  rw [read_ents b.ents _ _ hb.ents]
  show readL ⟨n, init ++ [{ b with ents := [] ++ b.ents }]⟩ _ = _
  rw [List.nil_append]
  show readL ⟨n, init ++ [b]⟩ _ = _
  rw [ih]
  simp
theorem cutP_near (n : Int) : cutP ⟨(wordsL [.s nearW, .n n]).toArray⟩ nearP = (numB n, true) := by
 have e : wordsL [.s nearW, .n n] = [110, 101, 97, 114, 32] ++ numL n := by
  show nearW.data.toList ++ (32 :: numL n ++ []) = _
  rw [List.append_nil]; rfl
 rw [e]
 have h1 : hasP ⟨([110, 101, 97, 114, 32] ++ numL n).toArray⟩ nearP = true := by
  unfold hasP
  rw [Bool.and_eq_true, decide_eq_true_eq, decide_eq_true_eq]
  constructor
  ·show 5 ≤ ([110, 101, 97, 114, 32] ++ numL n).toArray.size
   rw [List.size_toArray, List.length_append]; show 5 ≤ 5 + _; omega
  ·apply ByteArray.ext
   rw [ByteArray.data_extract]
   apply Array.toList_inj.1
   show (Array.extract _ 0 5).toList = _
   simp
   rfl
 unfold cutP
 rw [h1, if_pos rfl]
 congr 1
 apply ByteArray.ext
 rw [ByteArray.data_extract]
 apply Array.toList_inj.1
 show (Array.extract ([110, 101, 97, 114, 32] ++ numL n).toArray 5 _).toList = numL n
 rw [Array.toList_extract]
 show List.take (([110, 101, 97, 114, 32] ++ numL n).toArray.size - 5) (List.drop 5 ([110, 101, 97, 114, 32] ++ numL n)) = numL n
 show List.take _ (numL n) = _
 apply List.take_of_length_le
 rw [List.size_toArray, List.length_append]
 show _ ≤ 5 + _ - 5
 omega
theorem first_near {n : Int} (h : In18 n) (z : List UInt8) : firstF (wordsL [.s nearW, .n n] ++ 10 :: z) = some (n, z) := by
 have hc : cleanW [.s nearW, .n n] := by
  intro w hw
  simp only [List.mem_cons, List.not_mem_nil, or_false] at hw
  rcases hw with rfl | rfl
  ·exact nearW_clean
  ·exact wdN_clean _
 unfold firstF
 rw [cut1_line _ _ (words_no10 hc)]
 simp only [if_pos, cutP_near, atoi_num h, Option.map_some]
theorem check_W {l : PLog} (h : checkN l = 0) : ∀ b ∈ l.books, BookW b := by
 intro b hb
 obtain ⟨h1, h2, h3, h4⟩ := check_book h hb
 obtain ⟨_, _, hh⟩ := check_iff.1 h
 obtain ⟨k, hk⟩ := List.getElem?_of_mem hb
 have hR := (check_ok h).book b hb
 have ho := hR.off
 have hs := hR.set
 refine ⟨(headE_iff.1 (hh k b hk).1).name, ?_, ?_, ?_, ?_, fun x hx => ?_⟩
 ·unfold In18; omega
 ·unfold In18; omega
 ·unfold In18; omega
 ·unfold In18; omega
 ·have hE := h4 x hx
  have hx2 := hR.ent x hx
  refine ⟨by unfold In18; omega, by unfold In18; omega, ?_⟩
  by_cases k1 : x.kind = 1
  ·exact .inl ⟨k1, (hE.pass k1).1, (hE.pass k1).2⟩
  ·by_cases k2 : x.kind = 2
   ·exact .inr (.inl ⟨k2, (hE.set k2).1, (hE.set k2).2⟩)
   ·have k3 : x.kind = 3 := by have := hx2.2.1; omega
    exact .inr (.inr ⟨k3, (hE.rep k3).1⟩)
theorem num_short {n : Int} (h : -20000 ≤ n ∧ n ≤ 20000) : (numB n).size ≤ 7 := numB_short (by omega)
theorem book_short {b : PBook} (h : BookW b) (hR : BookR b) : (rowT (bookWs b)).size ≤ 60 := by
 have ho := hR.off
 have hs := hR.set
 have h1 := nameF_size h.name
 have h2 := num_short (n := b.off.lo) (by omega)
 have h3 := num_short (n := b.off.hi) (by omega)
 have h4 := num_short (n := b.set.lo) (by omega)
 have h5 := num_short (n := b.set.hi) (by omega)
 have e : (rowT (bookWs b)).size = bookW.size + (1 + b.name.size + (1 + (numB b.off.lo).size + (1 + (numB b.off.hi).size + (1 + (numB b.set.lo).size + (1 + (numB b.set.hi).size + 0))))) + 1 := by
  simp only [rowT, bookWs, wordsW, tailW, ba_size]; rfl
 have : bookW.size = 4 := rfl
 omega
theorem ent_short {x : PEnt} (h : EntW x) (hs : 0 ≤ x.shown ∧ x.shown ≤ 20000) (hn : 0 ≤ x.number ∧ x.number ≤ 99) : (rowT (entWs x)).size ≤ 40 := by
 have h2 := num_short (n := x.shown) (by omega)
 have h3 := num_short (n := x.number) (by omega)
 unfold entWs
 rcases h.kind with ⟨h1, h4, h5⟩ | ⟨h1, h4, h5⟩ | ⟨h1, h4⟩
 ·have h6 := nameF_size h4
  rw [if_pos h1]
  have e : (rowT [.s passW, .n x.shown, .s x.word]).size = passW.size + (1 + (numB x.shown).size + (1 + x.word.size + 0)) + 1 := by
   simp only [rowT, wordsW, tailW, ba_size]; rfl
  have : passW.size = 4 := rfl
  omega
 ·rw [if_neg (by omega), if_pos h1]
  have e : (rowT [.s setW, .n x.shown]).size = setW.size + (1 + (numB x.shown).size + 0) + 1 := by
   simp only [rowT, wordsW, tailW, ba_size]; rfl
  have : setW.size = 3 := rfl
  omega
 ·have h6 := nameF_size h4
  rw [if_neg (by omega), if_neg (by omega)]
  have e : (rowT [.s reportW, .n x.shown, .s x.word, .n x.number]).size = reportW.size + (1 + (numB x.shown).size + (1 + x.word.size + (1 + (numB x.number).size + 0))) + 1 := by
   simp only [rowT, wordsW, tailW, ba_size]; rfl
  have : reportW.size = 6 := rfl
  omega
theorem ents_short : ∀ {r : List PEnt}, (∀ x ∈ r, (rowT (entWs x)).size ≤ 40) → (entsT r).size ≤ 40 * r.length
 | [], _ => Nat.zero_le _
 | x :: r, h => by
  have h1 := ents_short (r := r) fun y hy => h y (List.mem_cons_of_mem _ hy)
  have h2 := h x (List.mem_cons_self ..)
  rw [entsT, ba_size, List.length_cons]
  omega
theorem books_short : ∀ {r : List PBook}, (∀ x ∈ r, (bookT x).size ≤ 400) → (booksT r).size ≤ 400 * r.length
 | [], _ => Nat.zero_le _
 | x :: r, h => by
  have h1 := books_short (r := r) fun y hy => h y (List.mem_cons_of_mem _ hy)
  have h2 := h x (List.mem_cons_self ..)
  rw [booksT, ba_size, List.length_cons]
  omega
theorem logT_short {l : PLog} (h : checkN l = 0) : (logT l).size ≤ 1500 := by
 have hR := check_ok h
 have hW := check_W h
 have h1 := books_short (r := l.books) (by
  intro b hb
  have hbR := hR.book b hb
  have h2 := book_short (hW b hb) hbR
  have h3 := ents_short (r := b.ents) fun x hx => ent_short ((hW b hb).ents x hx) (hbR.ent x hx).1 (hbR.ent x hx).2.2
  have h4 := hbR.ents
  rw [bookT, ba_size]
  omega)
 have h2 := num_short (n := l.near) (by have := hR.near; omega)
 have h3 := hR.books
 have e : (rowT [.s nearW, .n l.near]).size = nearW.size + (1 + (numB l.near).size + 0) + 1 := by
  simp only [rowT, wordsW, tailW, ba_size]; rfl
 have : nearW.size = 4 := rfl
 rw [logT, ba_size]
 omega
theorem read_write {l : PLog} (h : checkN l = 0) : readX (logT l) = (l, 0) := by
 have hR := check_ok h
 have hs := logT_short h
 have hn : In18 l.near := by have := hR.near; unfold In18; omega
 have e : (logT l).data.toList = wordsL [.s nearW, .n l.near] ++ 10 :: ((booksT l.books).data.toList ++ []) := by
  rw [logT]
  simp only [ByteArray.data_append, Array.toList_append, rowT_toL, List.append_assoc, List.append_nil]
  rfl
 have hl : readAll (logT l).data.toList = some l := by
  unfold readAll
  rw [e, first_near hn]
  show readL ⟨l.near, []⟩ _ = _
  rw [read_books l.books [] [] (check_W h), readL_eq, if_pos rfl]
  rfl
 unfold readX
 rw [if_neg (by omega), hl]
 simp only [h, and_self, if_pos]
theorem readX_good {s : ByteArray} (h : (readX s).2 = 0) : checkN (readX s).1 = 0 ∧ logT (readX s).1 = s := by
 unfold readX at h ⊢
 split at h
 ·cases h
 ·rename_i h4
  rw [if_neg h4]
  cases hr : readAll s.data.toList with
  | none => rw [hr] at h; cases h
  | some c =>
   rw [hr] at h
   simp only at h ⊢
   split at h
   ·rename_i h5
    rw [if_pos h5]; exact h5
   ·cases h
theorem readX_bad {s : ByteArray} (h : (readX s).2 ≠ 0) : (readX s).1 = logO := by
 unfold readX at h ⊢
 split
 ·rfl
 ·rename_i h4
  rw [if_neg h4] at h
  cases hr : readAll s.data.toList with
  | none => rfl
  | some c =>
   rw [hr] at h
   simp only at h ⊢
   split
   ·rename_i h5
    rw [if_pos h5] at h; exact absurd rfl h
   ·rfl
end Go.PX
namespace Go.PX
open Go.Proofs
open Go.RowKit
theorem few_of {l : PLog} (h : checkN l = 0) : FewP l := by
 have hR := check_ok h
 refine ⟨by have := hR.books; omega, fun b hb => ?_⟩
 have := (hR.book b hb).ents
 omega
theorem round_two (s : ByteArray) : (readX s).2 ≠ 0 ∧ (readX s).1.books.length = 0 ∨ (readX s).2 = 0 ∧ writeF (readX s).1 = (s, 0) := by
 by_cases h : (readX s).2 = 0
 ·obtain ⟨h1, h2⟩ := readX_good h
  exact .inr ⟨h, by unfold writeF; rw [if_pos h1, h2]⟩
 ·exact .inl ⟨h, by rw [readX_bad h]; rfl⟩
set_option maxHeartbeats 4000000 in
theorem pa16 (l : PLog) (s : ByteArray) : FnV Tryz.prog 16 [l.d, .str s] (.bool true) := by
 have hr2 : FnV Tryz.prog 41 [.str s] (.tup [(readX s).1.d, i64 (readX s).2]) := pa41 s
 have hs2 := round_two s
 generalize (readX s).1 = c2 at hr2 hs2
 generalize (readX s).2 = e2 at hr2 hs2
 rcases Classical.em (checkN l = 0) with hc | hc
 ·have h1 : FnV Tryz.prog 39 [l.d] (.tup [.str (logT l), i64 0]) := FnV.cast (pa39 l) (by unfold writeF; rw [if_pos hc])
  have h2 : FnV Tryz.prog 41 [.str (logT l)] (.tup [l.d, i64 0]) := FnV.cast (pa41 (logT l)) (by rw [read_write hc])
  have h3 : FnV Tryz.prog 43 [l.d, l.d] (.bool true) := FnV.cast (pa43 l l (few_of hc)) (by simp)
  have hz := logT_short hc
  generalize logT l = T at h1 h2 hz
  show FnV Tryz.prog 16 [l.d, .str s] _
  refine fnV_of mixed tysOk Tryz.func16 rfl (ft := ft16) 2 (by decide +kernel) (by rfl) fun {σ} Y st => ?_
  conv=>whnf
  refine CallA_v (ds := [l.d]) h1 rfl rfl ?_
  conv=>whnf
  refine CallA_v (ds := [.str T]) h2 rfl rfl ?_
  conv=>whnf
  refine CallA_v (ds := [l.d, l.d]) h3 rfl rfl ?_
  conv=>whnf
  refine brk_i (fun h => absurd (of_decide_eq_true h) (by omega)) (fun _ => ?_)
  conv=>whnf
  refine CallA_v (ds := [.str s]) hr2 rfl rfl ?_
  rcases hs2 with ⟨g1, g2⟩ | ⟨g1, g2⟩
  ·conv=>whnf
   refine brk_i (fun _ => ?_) (fun h => absurd h (by simp [g1]))
   conv=>whnf
   refine brk_i (fun _ => ?_) (fun h => absurd h (by simp [g2]))
   conv=>whnf
   refine CallA_v (pa26) rfl rfl ?_
   conv=>whnf
   exact RetA_view 0 rfl ⟨⟨rfl, rfl⟩, rfl⟩
  ·subst g1
   have hw2 : FnV Tryz.prog 39 [c2.d] (.tup [.str s, i64 0]) := FnV.cast (pa39 c2) (by rw [g2])
   conv=>whnf
   refine CallA_v (ds := [c2.d]) hw2 rfl rfl ?_
   conv=>whnf
   refine brk_i (fun _ => ?_) (fun h => absurd h (by simp))
   conv=>whnf
   refine CallA_v (pa26) rfl rfl ?_
   conv=>whnf
   exact RetA_view 0 rfl ⟨⟨rfl, rfl⟩, rfl⟩
 ·have h1 : FnV Tryz.prog 39 [l.d] (.tup [.str .empty, i64 (checkN l)]) := FnV.cast (pa39 l) (by unfold writeF; rw [if_neg hc])
  generalize checkN l = E at hc h1
  show FnV Tryz.prog 16 [l.d, .str s] _
  refine fnV_of mixed tysOk Tryz.func16 rfl (ft := ft16) 2 (by decide +kernel) (by rfl) fun {σ} Y st => ?_
  conv=>whnf
  refine CallA_v (ds := [l.d]) h1 rfl rfl ?_
  conv=>whnf
  refine brk_i (fun h => absurd (of_decide_eq_true h) hc) (fun _ => ?_)
  conv=>whnf
  refine CallA_v (ds := [.str s]) hr2 rfl rfl ?_
  rcases hs2 with ⟨g1, g2⟩ | ⟨g1, g2⟩
  ·conv=>whnf
   refine brk_i (fun _ => ?_) (fun h => absurd h (by simp [g1]))
   conv=>whnf
   refine brk_i (fun _ => ?_) (fun h => absurd h (by simp [g2]))
   conv=>whnf
   refine CallA_v (pa26) rfl rfl ?_
   conv=>whnf
   exact RetA_view 0 rfl ⟨⟨rfl, rfl⟩, rfl⟩
  ·subst g1
   have hw2 : FnV Tryz.prog 39 [c2.d] (.tup [.str s, i64 0]) := FnV.cast (pa39 c2) (by rw [g2])
   conv=>whnf
   refine CallA_v (ds := [c2.d]) hw2 rfl rfl ?_
   conv=>whnf
   refine brk_i (fun _ => ?_) (fun h => absurd h (by simp))
   conv=>whnf
   refine CallA_v (pa26) rfl rfl ?_
   conv=>whnf
   exact RetA_view 0 rfl ⟨⟨rfl, rfl⟩, rfl⟩
end Go.PX
