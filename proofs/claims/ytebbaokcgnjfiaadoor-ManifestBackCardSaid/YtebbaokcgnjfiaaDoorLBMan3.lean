import Derived.Test.YtebbaokcgnjfiaaDoorLBMan2
set_option linter.unusedVariables false
set_option linter.unusedSimpArgs false
namespace Go.Proofs.YtebbaokcgnjfiaaDoor.F
open Go Go.RowKit Go.Proofs.YtebbaokcgnjfiaaDoor.K
theorem refdata_loop {x : TApiEntry} (hk : x.Kind = 1) (hx : x.Data.length ≤ 100000000) : ∀ n (s : List UInt8) (i : Nat),x.Data.length - i ≤ n → i ≤ x.Data.length + 100 → s.length + 5 * (x.Data.length - i) ≤ 10000000000 → loopO (fun s => ref27_Lines_l1 x s.1 s.2) (s,(i : Int)) = some (s ++ dataS n (x.Data.drop i)) := by
 have stop : ∀ (s : List UInt8) (i : Nat),x.Data.length ≤ i → loopO (fun s => ref27_Lines_l1 x s.1 s.2) (s,(i : Int)) = some s := by
  intro s i h
  refine loop_end ?_
  show ref27_Lines_l1 x s (i : Int) = _
  unfold ref27_Lines_l1
  rw [decide_eq_false (by omega)]
  rfl
 intro n
 induction n with
 | zero =>
  intro s i h1 h2 h3
  rw [stop s i (by omega)]
  simp [dataS]
 | succ n ih =>
  intro s i h1 h2 h3
  unfold dataS
  by_cases hd : x.Data.length ≤ i
  ·rw [stop s i hd,List.drop_eq_nil_of_le hd,if_pos rfl,List.append_nil]
  ·have hne : x.Data.drop i ≠ [] := by
    intro h
    have := congrArg List.length h
    rw [List.length_drop] at this
    simp at this
    omega
   rw [if_neg hne]
   have hl2 : (x.Data.drop i).length = x.Data.length - i := List.length_drop
   have hl3 : ((x.Data.drop i).take 32).length = min 32 (x.Data.length - i) := by rw [List.length_take,hl2]
   have hl4 := hex_len ((x.Data.drop i).take 32)
   refine (loop_next (s' := (s ++ 61 :: 32 :: (((x.Data.drop i).take 32).flatMap h2x ++ [10]),((i + 32 : Nat) : Int))) ?_).trans ?_
   ·show ref27_Lines_l1 x s (i : Int) = _
    unfold ref27_Lines_l1
    rw [lt_eq,decide_eq_true (by omega),cond_true,show (x.Kind == 1) = true from by simp [hk],cond_true,wI (x := (i : Int) + 32) (by omega)]
    by_cases hi : x.Data.length < i + 32
    ·have e : (x.Data.take (x.Data.length : Int).toNat).drop (i : Int).toNat = (x.Data.drop i).take 32 := by
      rw [Int.toNat_natCast,Int.toNat_natCast,List.take_length,List.take_of_length_le (by omega)]
     rw [decide_eq_true (by omega),cond_true,cat_ok (by simp only [List.length_cons,List.length_nil]; omega),Option.bind_some,slc_ok (by omega),e,Option.bind_some,refhex_ok _ (by omega),Option.bind_some,cat_ok (by simp only [List.length_append,List.length_cons,List.length_nil]; omega),Option.bind_some,cat_ok (by simp only [List.length_append,List.length_cons,List.length_nil]; omega)]
     simp only [List.append_assoc,List.cons_append,List.nil_append,Option.bind_some]
     rfl
    ·have e : (x.Data.take ((i : Int) + 32).toNat).drop (i : Int).toNat = (x.Data.drop i).take 32 := by
      rw [Int.toNat_natCast,show ((i : Int) + 32).toNat = i + 32 by omega,List.drop_take,show i + 32 - i = 32 by omega]
     rw [decide_eq_false (by omega),cond_false,cat_ok (by simp only [List.length_cons,List.length_nil]; omega),Option.bind_some,slc_ok (by omega),e,Option.bind_some,refhex_ok _ (by omega),Option.bind_some,cat_ok (by simp only [List.length_append,List.length_cons,List.length_nil]; omega),Option.bind_some,cat_ok (by simp only [List.length_append,List.length_cons,List.length_nil]; omega)]
     simp only [List.append_assoc,List.cons_append,List.nil_append,Option.bind_some]
     rfl
   ·rw [ih _ _ (by omega) (by omega) (by simp only [List.length_append,List.length_cons,List.length_nil]; omega),List.drop_drop]
    simp only [List.append_assoc,List.cons_append,List.nil_append]
theorem refdata_none {x : TApiEntry} (hk : x.Kind ≠ 1) (s : List UInt8) : loopO (fun s => ref27_Lines_l1 x s.1 s.2) (s,0) = some s := by
 refine loop_end ?_
 show ref27_Lines_l1 x s 0 = _
 unfold ref27_Lines_l1
 rw [show (x.Kind == 1) = false from by simpa using hk,lt_eq]
 cases (decide ((0 : Int) < (x.Data.length : Int))) <;> rfl
theorem refattrs_loop {x : TApiEntry} (hk : x.Kind ≠ 6) (hs : EntrySmall x) : ∀ k t (s : List UInt8),x.Attrs.length - t = k → t ≤ x.Attrs.length → s.length + 11000 * (x.Attrs.length - t) ≤ 2000000000 → loopO (fun s => ref27_Lines_l2 x s.1 s.2) (s,(t : Int)) = some (s ++ (x.Attrs.drop t).flatMap attrS) := by
 intro k
 induction k with
 | zero =>
  intro t s h1 h2 h3
  have : t = x.Attrs.length := by omega
  subst this
  rw [List.drop_length]
  refine loop_end ?_
  show ref27_Lines_l2 x s (x.Attrs.length : Int) = _
  unfold ref27_Lines_l2
  rw [decide_eq_false (by omega)]
  simp [lt_]
 | succ k ih =>
  intro t s h1 h2 h3
  have hlt : t < x.Attrs.length := by omega
  have hx := List.getElem?_eq_getElem hlt
  obtain ⟨a,ha⟩ : ∃ a,a = x.Attrs[t] := ⟨_,rfl⟩
  rw [← ha] at hx
  have hd : x.Attrs.drop t = a :: x.Attrs.drop (t + 1) := by rw [ha]; exact List.drop_eq_getElem_cons hlt
  have hsm := hs.each a (by rw [ha]; exact List.getElem_mem hlt)
  have hq := attrS_len hsm
  have hn := hsm.name
  have hv := hsm.value
  have hql := Qt_len a.Name
  have hat := hs.attrs
  refine (loop_next (s' := (s ++ attrS a,((t + 1 : Nat) : Int))) ?_).trans ?_
  ·show ref27_Lines_l2 x s (t : Int) = _
   unfold ref27_Lines_l2 attrS
   rw [lt_eq,decide_eq_true (by omega),cond_true,show (x.Kind != 6) = true from by simpa using hk,cond_true,cat_ok (by simp only [List.length_cons,List.length_nil]; omega),Option.bind_some,idx_ok hx,Option.bind_some,refQuote_ok _ (by omega),Option.bind_some,cat_ok (by simp only [List.length_append,List.length_cons,List.length_nil]; omega),Option.bind_some,wI (by omega)]
   by_cases hv0 : a.Value = []
   ·rw [if_pos hv0,hv0,decide_eq_false (by simp),cond_false,cat_ok (by simp only [List.length_append,List.length_cons,List.length_nil]; omega)]
    simp only [List.append_assoc,List.cons_append,List.nil_append,Option.bind_some]
    rfl
   ·have : 0 < a.Value.length := by cases h : a.Value with
     | nil => exact absurd h hv0
     | cons => simp
    have hl4 := hex_len a.Value
    rw [if_neg hv0,decide_eq_true (by omega),cond_true,cat_ok (by simp only [List.length_append,List.length_cons,List.length_nil]; omega),Option.bind_some,refhex_ok _ (by omega),Option.bind_some,cat_ok (by simp only [List.length_append,List.length_cons,List.length_nil]; omega),Option.bind_some,cat_ok (by simp only [List.length_append,List.length_cons,List.length_nil]; omega)]
    simp only [List.append_assoc,List.cons_append,List.nil_append,Option.bind_some]
    rfl
  ·rw [ih (t + 1) _ (by omega) (by omega) (by rw [List.length_append]; omega),hd,List.flatMap_cons,List.append_assoc]
theorem refattrs_none {x : TApiEntry} (hk : x.Kind = 6) (s : List UInt8) : loopO (fun s => ref27_Lines_l2 x s.1 s.2) (s,0) = some s := by
 refine loop_end ?_
 show ref27_Lines_l2 x s 0 = _
 unfold ref27_Lines_l2
 rw [show (x.Kind != 6) = false from by simp [hk],lt_eq]
 cases (decide ((0 : Int) < (x.Attrs.length : Int))) <;> rfl
theorem Lines_ok {x : TApiEntry} (h : RightP x) (hs : EntrySmall x) : ref27_Lines x = some (lineS x ++ restS x) := by
 have hp := hs.path
 have ht := hs.target
 have hd := hs.data
 have n1 := numsS_len h
 have n2 := sizeS_len h
 have n3 := Qt_len x.Path
 have n4 := Qt_len x.Target
 have n5 := lineS_len h hs
 have n6 := dataS_len x.Data.length x.Data
 have hA : ∀ c : UInt8,(cond (x.Kind != 6)
   (Option.bind (cat [c] ([32] : List UInt8)) fun s_ =>
   Option.bind (ref27_Digits x.Mode 8) fun digits =>
   Option.bind (cat s_ digits) fun s_1 =>
   Option.bind (cat s_1 ([32] : List UInt8)) fun s_2 =>
   Option.bind (ref27_Digits x.Uid 10) fun digits1 =>
   Option.bind (cat s_2 digits1) fun s_3 =>
   Option.bind (cat s_3 ([32] : List UInt8)) fun s_4 =>
   Option.bind (ref27_Digits x.Gid 10) fun digits2 =>
   Option.bind (cat s_4 digits2) fun s_5 =>
   Option.bind (cat s_5 ([32] : List UInt8)) fun s_6 =>
   Option.bind (ref27_Digits x.Time 10) fun digits3 =>
   Option.bind (cat s_6 digits3) fun s_7 =>
   some s_7)
   (some [c])) = some (c :: numsS x) := by
  intro c
  unfold numsS
  by_cases h6 : x.Kind = 6
  ·rw [show (x.Kind != 6) = false from by simp [h6],if_pos h6]
   rfl
  ·obtain ⟨a1,a2,a3,a4⟩ := h.head h6
   have l1 := dgs_le (.inl rfl) a1
   have l2 := dgs_le (.inr rfl) a2
   have l3 := dgs_le (.inr rfl) a3
   have l4 := dgs_le (.inr rfl) a4
   rw [show (x.Kind != 6) = true from by simpa using h6,if_neg h6,cond_true,dig8 a1,dig10 a2,dig10 a3,dig10 a4,cat_ok (by simp),Option.bind_some,Option.bind_some,cat_ok (by simp; omega),Option.bind_some,cat_ok (by simp; omega),Option.bind_some,Option.bind_some,cat_ok (by simp; omega),Option.bind_some,cat_ok (by simp; omega),Option.bind_some,Option.bind_some,cat_ok (by simp; omega),Option.bind_some,cat_ok (by simp; omega),Option.bind_some,Option.bind_some,cat_ok (by simp; omega),Option.bind_some]
   simp only [List.append_assoc,List.cons_append,List.nil_append]
 have hB : ∀ d : List UInt8,d.length ≤ 2000000000 → (Option.bind (cond (x.Kind == 1)
   (Option.bind (cat d ([32] : List UInt8)) fun s_8 =>
   Option.bind (ref27_Digits x.Size 10) fun digits4 =>
   Option.bind (cat s_8 digits4) fun s_9 =>
   some s_9)
   (some d)) fun s_8 =>
   lt_
   (cond (x.Kind == 4)
   (true)
   ((x.Kind == 5))) fun t =>
   (cond t
   (Option.bind (cat s_8 ([32] : List UInt8)) fun s_10 =>
   Option.bind (ref27_Digits x.Dev 10) fun digits5 =>
   Option.bind (cat s_10 digits5) fun s_11 =>
   some s_11)
   (some s_8))) = some (d ++ sizeS x) := by
  intro d hd
  unfold sizeS
  rw [kb,kb,kb]
  by_cases k1 : x.Kind = 1
  ·have l1 := dgs_le (.inr rfl) (h.size k1)
   rw [decide_eq_true k1,cond_true,if_pos k1,cat_ok (by simp; omega),Option.bind_some,dig10 (h.size k1),Option.bind_some,cat_ok (by simp; omega),Option.bind_some,Option.bind_some,lt_eq,decide_eq_false (by omega),decide_eq_false (by omega)]
   simp only [List.append_assoc,List.cons_append,List.nil_append,cond_false]
  ·rw [decide_eq_false k1,cond_false,if_neg k1,Option.bind_some,lt_eq]
   by_cases k4 : x.Kind = 4 ∨ x.Kind = 5
   ·have l1 := dgs_le (.inr rfl) (h.dev k4)
    have e : (cond (decide (x.Kind = 4)) true (decide (x.Kind = 5))) = true := by rcases k4 with k | k <;> simp [k]
    rw [e,cond_true,if_pos k4,cat_ok (by simp; omega),Option.bind_some,dig10 (h.dev k4),Option.bind_some,cat_ok (by simp; omega),Option.bind_some]
    simp only [List.append_assoc,List.cons_append,List.nil_append]
   ·have e : (cond (decide (x.Kind = 4)) true (decide (x.Kind = 5))) = false := by simp; omega
    rw [e,cond_false,if_neg k4,List.append_nil]
 have hC : ∀ d : List UInt8,d.length ≤ 2000000000 → (lt_
   (cond (x.Kind == 3)
   (true)
   ((x.Kind == 6))) fun t1 =>
   (cond t1
   (Option.bind (cat d ([32] : List UInt8)) fun s_14 =>
   Option.bind (ref27_Quote x.Target) fun quote1 =>
   Option.bind (cat s_14 quote1) fun s_15 =>
   some s_15)
   (some d))) = some (d ++ linkS x) := by
  intro d hd
  unfold linkS
  rw [kb,kb,lt_eq]
  by_cases k3 : x.Kind = 3 ∨ x.Kind = 6
  ·have e : (cond (decide (x.Kind = 3)) true (decide (x.Kind = 6))) = true := by rcases k3 with k | k <;> simp [k]
   rw [e,cond_true,if_pos k3,cat_ok (by simp; omega),Option.bind_some,refQuote_ok _ (by omega),Option.bind_some,cat_ok (by simp; omega),Option.bind_some]
   simp only [List.append_assoc,List.cons_append,List.nil_append]
  ·have e : (cond (decide (x.Kind = 3)) true (decide (x.Kind = 6))) = false := by simp; omega
   rw [e,cond_false,if_neg k3,List.append_nil]
 have hlink : (linkS x).length ≤ 16000 := by unfold linkS; split <;> simp only [List.length_cons,List.length_nil] <;> omega
 have hD : ∀ s : List UInt8,s.length ≤ 100000 → (Option.bind (loopO (fun s => ref27_Lines_l1 x s.1 s.2) (s,0)) fun s_17 => Option.bind (loopO (fun s => ref27_Lines_l2 x s.1 s.2) (s_17,0)) fun s_24 => some s_24) = some (s ++ restS x) := by
  intro s hsl
  have ha := hs.attrs
  unfold restS
  by_cases k1 : x.Kind = 1
  ·have e := refdata_loop k1 (by omega) x.Data.length s 0 (by omega) (by omega) (by omega)
   rw [List.drop_zero] at e
   have e2 := refattrs_loop (by omega : x.Kind ≠ 6) hs x.Attrs.length 0 (s ++ dataS x.Data.length x.Data) (by omega) (by omega) (by rw [List.length_append]; omega)
   rw [List.drop_zero] at e2
   rw [show (0 : Int) = ((0 : Nat) : Int) from rfl,e,Option.bind_some,e2,Option.bind_some,if_pos k1,if_neg (by omega),List.append_assoc]
  ·rw [refdata_none k1,Option.bind_some,if_neg k1,List.nil_append]
   by_cases k6 : x.Kind = 6
   ·rw [refattrs_none k6,if_pos k6,List.append_nil]; rfl
   ·have e2 := refattrs_loop k6 hs x.Attrs.length 0 s (by omega) (by omega) (by omega)
    rw [List.drop_zero] at e2
    rw [show (0 : Int) = ((0 : Nat) : Int) from rfl,e2,if_neg k6]; rfl
 have lta : ∀ {α β γ : Type} (b : α) (f : α → Option β) (g : β → Option γ),(lt_ b fun t => Option.bind (f t) g) = Option.bind (lt_ b f) g := fun _ _ _ => rfl
 have shape : ref27_Lines x = (Option.bind (idx ([63,102,100,108,98,99,104] : List UInt8) x.Kind) fun c =>
   Option.bind (cond (x.Kind != 6)
   (Option.bind (cat [c] ([32] : List UInt8)) fun s_ =>
   Option.bind (ref27_Digits x.Mode 8) fun digits =>
   Option.bind (cat s_ digits) fun s_1 =>
   Option.bind (cat s_1 ([32] : List UInt8)) fun s_2 =>
   Option.bind (ref27_Digits x.Uid 10) fun digits1 =>
   Option.bind (cat s_2 digits1) fun s_3 =>
   Option.bind (cat s_3 ([32] : List UInt8)) fun s_4 =>
   Option.bind (ref27_Digits x.Gid 10) fun digits2 =>
   Option.bind (cat s_4 digits2) fun s_5 =>
   Option.bind (cat s_5 ([32] : List UInt8)) fun s_6 =>
   Option.bind (ref27_Digits x.Time 10) fun digits3 =>
   Option.bind (cat s_6 digits3) fun s_7 =>
   some s_7)
   (some [c])) fun d =>
   Option.bind (Option.bind (cond (x.Kind == 1)
   (Option.bind (cat d ([32] : List UInt8)) fun s_8 =>
   Option.bind (ref27_Digits x.Size 10) fun digits4 =>
   Option.bind (cat s_8 digits4) fun s_9 =>
   some s_9)
   (some d)) fun s_8 =>
   lt_
   (cond (x.Kind == 4)
   (true)
   ((x.Kind == 5))) fun t =>
   (cond t
   (Option.bind (cat s_8 ([32] : List UInt8)) fun s_10 =>
   Option.bind (ref27_Digits x.Dev 10) fun digits5 =>
   Option.bind (cat s_10 digits5) fun s_11 =>
   some s_11)
   (some s_8))) fun s_10 =>
   Option.bind (cat s_10 ([32] : List UInt8)) fun s_12 =>
   Option.bind (ref27_Quote x.Path) fun quote =>
   Option.bind (cat s_12 quote) fun d =>
   Option.bind (lt_
   (cond (x.Kind == 3)
   (true)
   ((x.Kind == 6))) fun t1 =>
   (cond t1
   (Option.bind (cat d ([32] : List UInt8)) fun s_14 =>
   Option.bind (ref27_Quote x.Target) fun quote1 =>
   Option.bind (cat s_14 quote1) fun s_15 =>
   some s_15)
   (some d))) fun s_14 =>
   Option.bind (cat s_14 ([10] : List UInt8)) fun s_16 =>
   Option.bind (loopO (fun s => ref27_Lines_l1 x s.1 s.2) (s_16,0)) fun s_17 => Option.bind (loopO (fun s => ref27_Lines_l2 x s.1 s.2) (s_17,0)) fun s_24 => some s_24) := by
  unfold ref27_Lines
  simp only [Option.bind_assoc,lt_eq]
 rw [shape,(letter_ok h.kind).2,Option.bind_some,hA,Option.bind_some,hB _ (by simp; omega),Option.bind_some,cat_ok (by simp; omega),Option.bind_some,refQuote_ok _ (by omega),Option.bind_some,cat_ok (by simp; omega),Option.bind_some,hC _ (by simp; omega),Option.bind_some,cat_ok (by simp; omega),Option.bind_some,hD _ (by simp; omega)]
 unfold lineS
 simp only [List.append_assoc,List.cons_append,List.nil_append]
noncomputable def printS : List UInt8 → List TApiEntry → List UInt8 × Int
 | b,[] => (b,0)
 | b,x :: l => if (b ++ (lineS x ++ restS x)).length > 1048576 then ([],2) else printS (b ++ (lineS x ++ restS x)) l
theorem rights_loop (l : List TApiEntry) : loopO (fun s => manifest_Print_l1 l s) 0 = some (if l.all ref27_Right then .inl () else .inr ([],1)) := by
 rw [loop_any l _ (fun x => if ref27_Right x then none else some ([],1)) ?_ ?_]
 ·have : l.findSome? (fun x => if ref27_Right x then none else some (([] : List UInt8),(1 : Int))) = if l.all ref27_Right then none else some ([],1) := by
   induction l with
   | nil => rfl
   | cons x l ih =>
    rw [List.findSome?_cons,List.all_cons]
    cases h : ref27_Right x
    ·simp
    ·simpa using ih
  rw [this]
  cases l.all ref27_Right <;> rfl
 ·intro t x hx
  have hlt := (List.getElem?_eq_some_iff.1 hx).1
  unfold manifest_Print_l1
  rw [decide_eq_true (by omega),cond_true,hx,Option.bind_some,right_eq]
  cases ref27_Right x <;> rfl
 ·unfold manifest_Print_l1
  rw [decide_eq_false (by omega)]
  rfl
theorem refrights_loop (l : List TApiEntry) : loopO (fun s => ref27_Print_l1 l s) 0 = some (if l.all ref27_Right then .inl () else .inr ([],1)) := by
 have : (fun s => ref27_Print_l1 l s) = (fun s => manifest_Print_l1 l s) := by
  funext s
  unfold ref27_Print_l1 manifest_Print_l1
  simp only [right_eq]
 rw [this,rights_loop]
theorem print_loop (l : List TApiEntry) (hl : ∀ x ∈ l,RightP x ∧ EntrySmall x) : ∀ k t (b : List UInt8),l.length - t = k → t ≤ l.length → b.length ≤ 1048576 →
  loopO (fun s => manifest_Print_l2 l s.1 s.2) (b,t) = some (if (printS b (l.drop t)).2 = 0 then .inl (printS b (l.drop t)).1 else .inr ([],2)) ∧
  loopO (fun s => ref27_Print_l2 l s.1 s.2) (b,t) = some (if (printS b (l.drop t)).2 = 0 then .inl (printS b (l.drop t)).1 else .inr ([],2)) := by
 intro k
 induction k with
 | zero =>
  intro t b h1 h2 h3
  have : t = l.length := by omega
  subst this
  rw [List.drop_length]
  refine ⟨loop_end ?_,loop_end ?_⟩
  ·show manifest_Print_l2 l b l.length = _
   unfold manifest_Print_l2
   rw [decide_eq_false (by omega)]
   rfl
  ·show ref27_Print_l2 l b l.length = _
   unfold ref27_Print_l2
   rw [decide_eq_false (by omega)]
   rfl
 | succ k ih =>
  intro t b h1 h2 h3
  have hlt : t < l.length := by omega
  have hx := List.getElem?_eq_getElem hlt
  obtain ⟨x,ha⟩ : ∃ a,a = l[t] := ⟨_,rfl⟩
  rw [← ha] at hx
  have hd : l.drop t = x :: l.drop (t + 1) := by rw [ha]; exact List.drop_eq_getElem_cons hlt
  obtain ⟨hr,hs⟩ := hl x (by rw [ha]; exact List.getElem_mem hlt)
  have n1 := lineS_len hr hs
  have n2 := restS_len hs
  have hp := hs.path
  have ht := hs.target
  have eb : manifest_Print_l2 l b t = if (b ++ (lineS x ++ restS x)).length > 1048576 then some (.inr (.inr ([],2))) else some (.inl (b ++ (lineS x ++ restS x),t + 1)) := by
   unfold manifest_Print_l2
   rw [decide_eq_true (by omega),cond_true,hx,Option.bind_some,tooLong_ok hs,Option.bind_some,cond_false,line_ok b hr (by omega) (by omega) (by omega),Option.bind_some,rest_ok _ hs (by rw [List.length_append]; omega),Option.bind_some,List.append_assoc]
   by_cases hc : (b ++ (lineS x ++ restS x)).length > 1048576
   ·rw [decide_eq_true (by omega),if_pos hc]; rfl
   ·rw [decide_eq_false (by omega),if_neg hc]; rfl
  have er : ref27_Print_l2 l b t = if (b ++ (lineS x ++ restS x)).length > 1048576 then some (.inr (.inr ([],2))) else some (.inl (b ++ (lineS x ++ restS x),t + 1)) := by
   unfold ref27_Print_l2
   rw [decide_eq_true (by omega),cond_true,hx,Option.bind_some,Lines_ok hr hs,Option.bind_some,app_ok (by simp only [List.length_append]; omega),Option.bind_some]
   by_cases hc : (b ++ (lineS x ++ restS x)).length > 1048576
   ·rw [decide_eq_true (by omega),if_pos hc]; rfl
   ·rw [decide_eq_false (by omega),if_neg hc]; rfl
  rw [hd,printS]
  by_cases hc : (b ++ (lineS x ++ restS x)).length > 1048576
  ·rw [if_pos hc] at eb er ⊢
   exact ⟨loop_end eb,loop_end er⟩
  ·rw [if_neg hc] at eb er ⊢
   obtain ⟨i1,i2⟩ := ih (t + 1) (b ++ (lineS x ++ restS x)) (by omega) (by omega) (by omega)
   exact ⟨(loop_next (s' := (b ++ (lineS x ++ restS x),t + 1)) eb).trans i1,(loop_next (s' := (b ++ (lineS x ++ restS x),t + 1)) er).trans i2⟩
theorem printS_2 : ∀ (l : List TApiEntry) (b : List UInt8),(printS b l).2 = 0 ∨ printS b l = ([],2)
 | [],b => .inl rfl
 | x :: l,b => by
  unfold printS
  split
  ·exact .inr rfl
  ·exact printS_2 l _
theorem rightsP {l : List TApiEntry} (h : l.all ref27_Right = true) : ∀ x ∈ l,RightP x := fun x hx => (Right_iff x).1 (List.all_eq_true.1 h x hx)
theorem Print_ok (l : List TApiEntry) (h : Small l) : manifest_Print l = some (if l.all ref27_Right then printS [] l else ([],1)) ∧ ref27_Print l = some (if l.all ref27_Right then printS [] l else ([],1)) := by
 unfold manifest_Print ref27_Print
 have hl := h.len
 rw [decide_eq_false (by omega),cond_false,cond_false,rights_loop,refrights_loop]
 cases hr : l.all ref27_Right
 ·exact ⟨rfl,rfl⟩
 ·obtain ⟨i1,i2⟩ := print_loop l (fun x hx => ⟨rightsP hr x hx,h.each x hx⟩) l.length 0 [] (by omega) (by omega) (by simp)
  rw [List.drop_zero] at i1 i2
  simp only [if_true,bnd_inl]
  rw [i1,i2]
  rcases printS_2 l [] with e | e
  ·rw [if_pos e]
   have : printS [] l = ((printS [] l).1,0) := by rw [← e]
   rw [this]
   exact ⟨rfl,rfl⟩
  ·rw [e,if_neg (by decide)]
   exact ⟨rfl,rfl⟩
def ex1 : TApiEntry := { Path := [97,32,98],Kind := 2,Mode := 493,Uid := 0,Gid := 0,Time := 0,Size := 0,Data := [],Target := [],Dev := 0,Attrs := [] }
def ex2 : TApiEntry := { Path := [120],Kind := 1,Mode := 0,Uid := 0,Gid := 0,Time := 0,Size := 3,Data := [1,255],Target := [],Dev := 0,Attrs := [] }
theorem small1 (x : TApiEntry) (h : EntrySmall x) : Small [x] := ⟨by simp,fun y hy => by rw [List.mem_singleton] at hy; rw [hy]; exact h⟩
theorem ex1_ok : manifest_Print [ex1] = some ([100,32,55,53,53,32,48,32,48,32,48,32,97,37,50,48,98,10],0) := by
 rw [(Print_ok [ex1] (small1 _ ⟨by decide,by decide,by decide,by decide,fun a h => by cases h⟩)).1]
 have e8 : dgs 8 493 = [55,53,53] := (dgs_eq (b := 8) (n := 493) (k := 3) (by omega) ⟨by omega,by decide,.inr (by decide)⟩).trans (by decide)
 have e0 : dgs 10 0 = [48] := (dgs_eq (b := 10) (n := 0) (k := 1) (by omega) ⟨by omega,by decide,.inl rfl⟩).trans (by decide)
 rw [show [ex1].all ref27_Right = true from by decide]
 have : lineS ex1 ++ restS ex1 = [100,32,55,53,53,32,48,32,48,32,48,32,97,37,50,48,98,10] := by
  have : lineS ex1 = [100,32,55,53,53,32,48,32,48,32,48,32,97,37,50,48,98,10] := by
   unfold lineS numsS sizeS
   show _ :: ((32 :: (dgs 8 493 ++ 32 :: (dgs 10 0 ++ 32 :: (dgs 10 0 ++ 32 :: dgs 10 0)))) ++ _) = _
   rw [e8,e0]
   decide
  rw [this]
  decide
 rw [if_pos rfl,printS,printS,List.nil_append,this]
 rfl
theorem ex2_ok : manifest_Print [ex2] = some ([102,32,48,32,48,32,48,32,48,32,51,32,120,10,61,32,48,49,102,102,10],0) := by
 rw [(Print_ok [ex2] (small1 _ ⟨by decide,by decide,by decide,by decide,fun a h => by cases h⟩)).1]
 have e8 : dgs 8 0 = [48] := (dgs_eq (b := 8) (n := 0) (k := 1) (by omega) ⟨by omega,by decide,.inl rfl⟩).trans (by decide)
 have e0 : dgs 10 0 = [48] := (dgs_eq (b := 10) (n := 0) (k := 1) (by omega) ⟨by omega,by decide,.inl rfl⟩).trans (by decide)
 have e3 : dgs 10 3 = [51] := (dgs_eq (b := 10) (n := 3) (k := 1) (by omega) ⟨by omega,by decide,.inl rfl⟩).trans (by decide)
 rw [show [ex2].all ref27_Right = true from by decide]
 have : lineS ex2 ++ restS ex2 = [102,32,48,32,48,32,48,32,48,32,51,32,120,10,61,32,48,49,102,102,10] := by
  have : lineS ex2 = [102,32,48,32,48,32,48,32,48,32,51,32,120,10] := by
   unfold lineS numsS sizeS
   show _ :: ((32 :: (dgs 8 0 ++ 32 :: (dgs 10 0 ++ 32 :: (dgs 10 0 ++ 32 :: dgs 10 0)))) ++ ((32 :: dgs 10 3) ++ _)) = _
   rw [e8,e0,e3]
   decide
  rw [this]
  decide
 rw [if_pos rfl,printS,printS,List.nil_append,this]
 rfl
theorem live27 : law27_live = some true := by
 have h1 := ex1_ok
 have h2 := ex2_ok
 unfold ex1 at h1
 unfold ex2 at h2
 unfold law27_live
 rw [h1,Option.bind_some,h2]
 decide
end Go.Proofs.YtebbaokcgnjfiaaDoor.F
