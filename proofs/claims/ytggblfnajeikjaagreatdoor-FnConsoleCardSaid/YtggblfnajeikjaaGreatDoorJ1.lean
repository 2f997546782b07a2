/- Joined texts of the proof: PlainSort, PlainStable, PlainMerge, PlainMerge2, PlainLate. -/
import Derived.Lib.Hide
namespace Go.Proofs.YtggblfnajeikjaaGreatDoor
set_option linter.unusedVariables false
set_option linter.unusedSimpArgs false
set_option maxRecDepth 100000
set_option maxHeartbeats 16000000
def insR:List Int→Int→List Int
 | [],x=>[x]
 | y :: t,x=>if x < y then y :: insR t x else x :: y :: t
def sortR (xs:List Int):List Int:=xs.foldl insR []
def srt (xs:List Int):List Int:=(sortR xs).reverse
theorem insR_length (s:List Int) (x:Int):(insR s x).length=s.length+1:=by
 induction s with
 | nil=>rfl
 | cons y t ih =>
   simp only [insR]
   split
   · simp only [List.length_cons,ih]
   · rfl
theorem insR_mem (s:List Int) (x y:Int):y∈insR s x↔y=x∨y∈s:=by
 induction s with
 | nil=>simp [insR]
 | cons z t ih =>
   simp only [insR]
   split
   · simp only [List.mem_cons,ih]
     constructor
     · rintro (h | h | h) <;> simp [h]
     · rintro (h | h | h) <;> simp [h]
   · simp only [List.mem_cons]
def Desc (s:List Int):Prop:=s.Pairwise (fun a b=>b≤a)
theorem insR_desc {s:List Int} (h:Desc s) (x:Int):Desc (insR s x):=by
 induction s with
 | nil=>simp [insR,Desc]
 | cons y t ih =>
   have h1:=List.pairwise_cons.1 h
   simp only [insR]
   split
   · rename_i hx
     refine List.pairwise_cons.2 ⟨fun a ha=>?_,ih h1.2⟩
     rcases (insR_mem t x a).1 ha with rfl | ha
     · omega
     · exact h1.1 a ha
   · rename_i hx
     refine List.pairwise_cons.2 ⟨fun a ha=>?_,h⟩
     rcases List.mem_cons.1 ha with rfl | ha
     · omega
     · have:=h1.1 a ha;omega
theorem sortR_desc (xs:List Int):Desc (sortR xs):=by
 have : ∀ (s:List Int),Desc s→Desc (xs.foldl insR s):=by
  induction xs with
  | nil=>intro s h;exact h
  | cons x t ih=>intro s h;exact ih _ (insR_desc h x)
 exact this [] (by simp [Desc])
theorem foldl_length (xs:List Int):∀ s:List Int,(xs.foldl insR s).length=s.length+xs.length:=by
 induction xs with
 | nil=>intro s;rfl
 | cons x t ih=>intro s;rw [List.foldl_cons,ih,insR_length,List.length_cons];omega
theorem srt_length (xs:List Int):(srt xs).length=xs.length:=by
 simp only [srt,sortR,List.length_reverse,foldl_length,List.length_nil];omega
theorem srt_desc (xs:List Int):Desc (srt xs).reverse:=by
 rw [srt,List.reverse_reverse]
 exact sortR_desc xs
section
variable (key:Int→Int)
def insK:List Int→Int→List Int
 | [],x=>[x]
 | y :: t,x=>if key x < key y then y :: insK t x else x :: y :: t
def sortK (xs:List Int):List Int:=xs.foldl (insK key) []
def srtS (xs:List Int):List Int:=(sortK key xs).reverse
theorem insK_length (s:List Int) (x:Int):(insK key s x).length=s.length+1:=by
 induction s with
 | nil=>rfl
 | cons y t ih =>
   simp only [insK]
   split
   · simp only [List.length_cons,ih]
   · rfl
theorem sortK_snoc (xs:List Int) (x:Int):sortK key (xs++[x])=insK key (sortK key xs) x:=by simp [sortK]
theorem foldlK_length (xs:List Int):∀ s:List Int,(xs.foldl (insK key) s).length=s.length+xs.length:=by
 induction xs with
 | nil=>intro s;rfl
 | cons x t ih=>intro s;rw [List.foldl_cons,ih,insK_length,List.length_cons];omega
theorem sortK_length (xs:List Int):(sortK key xs).length=xs.length:=by simp [sortK,foldlK_length]
theorem srtS_length (xs:List Int):(srtS key xs).length=xs.length:=by simp [srtS,sortK_length]
def sinkK (ys:List Int):Nat→List Int
 | 0=>ys
 | j+1=>if key (ys.getD (j+1) 0) < key (ys.getD j 0) then sinkK ((ys.set (j+1) (ys.getD j 0)).set j (ys.getD (j+1) 0)) j else ys
theorem sinkK_length (ys:List Int) (j:Nat):(sinkK key ys j).length=ys.length:=by
 induction j generalizing ys with
 | zero=>rfl
 | succ j ih =>
   simp only [sinkK]
   split
   · rw [ih];simp
   · rfl
theorem sinkK_ins:∀ (s:List Int) (x:Int) (rest:List Int),sinkK key (s.reverse++x :: rest) s.length=(insK key s x).reverse++rest
 | [],x,rest=>rfl
 | y :: t,x,rest=>by
   have e:(y :: t).reverse++x :: rest=t.reverse++y :: x :: rest:=by simp
   have g0:(t.reverse++y :: x :: rest).getD t.length 0=y:=by simp [List.getD_eq_getElem?_getD]
   have g1:(t.reverse++y :: x :: rest).getD (t.length+1) 0=x:=by
    rw [List.getD_eq_getElem?_getD,List.getElem?_append_right (by simp)]
    simp
   have g2:((t.reverse++y :: x :: rest).set (t.length+1) y).set t.length x=t.reverse++x :: y :: rest:=by
    rw [List.set_append_right _ _ (by simp),List.set_append_right _ _ (by simp)]
    simp
   rw [e,List.length_cons,sinkK,g0,g1,insK]
   split
   · rw [g2,sinkK_ins t x (y :: rest)]
     simp
   · simp
def srtKK (xs:List Int):Nat→List Int
 | 0=>xs
 | k+1=>sinkK key (srtKK xs k) (k+1)
theorem srtKK_length (xs:List Int) (k:Nat):(srtKK key xs k).length=xs.length:=by
 induction k with
 | zero=>rfl
 | succ k ih=>rw [srtKK,sinkK_length,ih]
theorem srtKK_eq (xs:List Int):∀ k,k < xs.length→srtKK key xs k=srtS key (xs.take (k+1))++xs.drop (k+1)
 | 0,h=>by
   cases xs with
   | nil=>simp at h
   | cons x t=>simp [srtKK,srtS,sortK,insK]
 | k+1,h=>by
   have ih:=srtKK_eq xs k (by omega)
   have hd:xs.drop (k+1)=xs[k+1] :: xs.drop (k+1+1):=List.drop_eq_getElem_cons h
   have ht:xs.take (k+1+1)=xs.take (k+1)++[xs[k+1]]:=List.take_succ_eq_append_getElem h
   have hl:(sortK key (xs.take (k+1))).length=k+1:=by rw [sortK_length,List.length_take];omega
   have:=sinkK_ins key (sortK key (xs.take (k+1))) xs[k+1] (xs.drop (k+1+1))
   rw [hl] at this
   rw [srtKK,ih,srtS,hd,this,srtS,ht,sortK_snoc]
end
section
variable {key:Int→Int}
def KAsc (key:Int→Int) (xs:List Int):Prop:=xs.Pairwise fun a b=>key a≤key b
def Stab (key:Int→Int) (xs ys:List Int):Prop:=∀ v,xs.filter (fun x=>decide (key x=v))=ys.filter (fun x=>decide (key x=v))
theorem Stab.refl (xs:List Int):Stab key xs xs:=fun _=>rfl
theorem Stab.symm {xs ys:List Int} (h:Stab key xs ys):Stab key ys xs:=fun v=>(h v).symm
theorem Stab.trans {xs ys zs:List Int} (h:Stab key xs ys) (k:Stab key ys zs):Stab key xs zs:=fun v=>(h v).trans (k v)
theorem Stab.app {a b c d:List Int} (h:Stab key a b) (k:Stab key c d):Stab key (a++c) (b++d):=fun v=>by rw [List.filter_append,List.filter_append,h v,k v]
theorem Stab.mem {xs ys:List Int} (h:Stab key xs ys) (x:Int):x∈xs↔x∈ys:=by
 have e:∀ l:List Int,x∈l↔x∈l.filter (fun y=>decide (key y=key x)):=fun l=>by simp [List.mem_filter]
 rw [e xs,e ys,h (key x)]
theorem Stab.swap {u v:List Int} (h:∀ x∈u,∀ y∈v,key y < key x):Stab key (u++v) (v++u):=by
 intro q
 rw [List.filter_append,List.filter_append]
 by_cases hu:u.filter (fun x=>decide (key x=q))=[]
 · rw [hu];simp
 · have hv:v.filter (fun x=>decide (key x=q))=[]:=by
    rw [List.filter_eq_nil_iff]
    intro y hy hk
    apply hu
    rw [List.filter_eq_nil_iff]
    intro x hx hk2
    have:=h x hx y hy
    have:=of_decide_eq_true hk
    have:=of_decide_eq_true hk2
    omega
   rw [hv];simp
theorem Stab.length {xs ys:List Int} (h:Stab key xs ys):xs.length=ys.length:=by
 have : ∀ (n:Nat) (xs ys:List Int),xs.length≤n→Stab key xs ys→xs.length=ys.length:=by
  intro n
  induction n with
  | zero =>
    intro xs ys hl h
    have hx:=List.eq_nil_of_length_eq_zero (Nat.le_zero.1 hl)
    subst hx
    cases ys with
    | nil=>rfl
    | cons y t=>exact absurd ((h.mem y).2 (by simp)) (by simp)
  | succ n ih =>
    intro xs ys hl h
    cases xs with
    | nil =>
      cases ys with
      | nil=>rfl
      | cons y t=>exact absurd ((h.mem y).2 (by simp)) (by simp)
    | cons x t =>
      have hmem:=(h.mem x).1 (by simp)
      have e:∀ l:List Int,l.length=(l.filter (fun y=>decide (key y=key x))).length+(l.filter (fun y=>!decide (key y=key x))).length:=fun l=>by
       induction l with
       | nil=>rfl
       | cons a l ih =>
         by_cases ha:key a=key x
         · simp [ha,ih];omega
         · simp [ha,ih];omega
      have h2:Stab key ((x :: t).filter (fun y=>!decide (key y=key x))) (ys.filter (fun y=>!decide (key y=key x))):=by
       intro v
       rw [List.filter_filter,List.filter_filter]
       by_cases hv:v=key x
       · subst hv
         rw [List.filter_eq_nil_iff.2 (by intro a _;simp),List.filter_eq_nil_iff.2 (by intro a _;simp)]
       · have e2:∀ l:List Int,l.filter (fun a=>decide (key a=v) && !decide (key a=key x))=l.filter (fun a=>decide (key a=v)):=fun l=>by
          congr 1
          funext a
          by_cases ha:key a=v
          · simp [ha,hv]
          · simp [ha]
         rw [e2,e2]
         exact h v
      have h3:=ih _ _ (by
       have h1:((x :: t).filter (fun y=>!decide (key y=key x)))=t.filter (fun y=>!decide (key y=key x)):=by simp
       have h4:=List.length_filter_le (fun y=>!decide (key y=key x)) t
       rw [h1]
       simp only [List.length_cons] at hl
       omega) h2
      rw [e (x :: t),e ys,h3,h (key x)]
 exact this xs.length xs ys (Nat.le_refl _) h
theorem asc_unique:∀ {xs ys:List Int},KAsc key xs→KAsc key ys→Stab key xs ys→xs=ys
 | [],ys,_,_,h=>by
   cases ys with
   | nil=>rfl
   | cons y t=>exact absurd ((h.mem y).2 (by simp)) (by simp)
 | x :: t,[],_,_,h=>absurd ((h.mem x).1 (by simp)) (by simp)
 | x :: t,y :: u,hx,hy,h=>by
   obtain ⟨hx1,hx2⟩:=List.pairwise_cons.1 hx
   obtain ⟨hy1,hy2⟩:=List.pairwise_cons.1 hy
   have h1:key y≤key x:=by
    rcases List.mem_cons.1 ((h.mem x).1 (by simp)) with e | e
    · rw [e];exact Int.le_refl _
    · exact hy1 x e
   have h2:key x≤key y:=by
    rcases List.mem_cons.1 ((h.mem y).2 (by simp)) with e | e
    · rw [e];exact Int.le_refl _
    · exact hx1 y e
   have he:key x=key y:=by omega
   have h3:=h (key x)
   rw [List.filter_cons,List.filter_cons,if_pos (by simp),if_pos (by simp [he])] at h3
   injection h3 with h4 h5
   subst h4
   have h6:Stab key t u:=fun v=>by
    by_cases hv:key x=v
    · subst hv;exact h5
    · have:=h v
      rw [List.filter_cons,List.filter_cons,if_neg (by simpa using hv),if_neg (by simpa using hv)] at this
      exact this
   rw [asc_unique hx2 hy2 h6]
theorem insK_filter (v x:Int):∀ s:List Int,(insK key s x).filter (fun y=>decide (key y=v))=(if key x=v then [x] else [])++s.filter (fun y=>decide (key y=v))
 | []=>by
   by_cases h:key x=v <;> simp [insK,h]
 | y :: t=>by
   have ih:=insK_filter v x t
   unfold insK
   split
   · rename_i hlt
     rw [List.filter_cons,ih]
     by_cases h1:key x=v
     · have h2:¬ key y=v:=by omega
       simp [h1,h2]
     · by_cases h2:key y=v <;> simp [h1,h2]
   · by_cases h1:key x=v <;> by_cases h2:key y=v <;> simp [h1,h2]
theorem sortK_filter (v:Int):∀ (xs s:List Int),(xs.foldl (insK key) s).filter (fun y=>decide (key y=v))=(xs.filter (fun y=>decide (key y=v))).reverse++s.filter (fun y=>decide (key y=v))
 | [],s=>by simp
 | x :: t,s=>by
   rw [List.foldl_cons,sortK_filter v t,insK_filter]
   by_cases h1:key x=v <;> simp [h1]
theorem srtS_stab (xs:List Int):Stab key (srtS key xs) xs:=by
 intro v
 rw [srtS,List.filter_reverse,sortK,sortK_filter]
 simp
theorem insK_mem (x y:Int):∀ s:List Int,y∈insK key s x↔y=x∨y∈s
 | []=>by simp [insK]
 | z :: t=>by
   unfold insK
   split
   · rw [List.mem_cons,insK_mem x y t,List.mem_cons]
     constructor
     · rintro (h | h | h) <;> simp [h]
     · rintro (h | h | h) <;> simp [h]
   · simp
theorem insK_desc (x:Int):∀ s:List Int,s.Pairwise (fun a b=>key b≤key a)→(insK key s x).Pairwise (fun a b=>key b≤key a)
 | [],_=>by simp [insK]
 | y :: t,h=>by
   obtain ⟨h1,h2⟩:=List.pairwise_cons.1 h
   unfold insK
   split
   · rename_i hlt
     refine List.pairwise_cons.2 ⟨fun z hz=>?_,insK_desc x t h2⟩
     rcases (insK_mem x z t).1 hz with rfl | hz
     · omega
     · exact h1 z hz
   · rename_i hlt
     refine List.pairwise_cons.2 ⟨fun z hz=>?_,h⟩
     rcases List.mem_cons.1 hz with rfl | hz
     · omega
     · have:=h1 z hz;omega
theorem srtS_asc (xs:List Int):KAsc key (srtS key xs):=by
 have : ∀ (xs s:List Int),s.Pairwise (fun a b=>key b≤key a)→(xs.foldl (insK key) s).Pairwise (fun a b=>key b≤key a):=by
  intro xs
  induction xs with
  | nil=>intro s h;exact h
  | cons x t ih=>intro s h;exact ih _ (insK_desc x s h)
 rw [KAsc,srtS,List.pairwise_reverse]
 exact this xs [] .nil
theorem srtS_unique {xs ys:List Int} (h:KAsc key ys) (hs:Stab key ys xs):ys=srtS key xs:=asc_unique h (srtS_asc xs) (hs.trans (srtS_stab xs).symm)
theorem srtS_self {xs:List Int} (h:KAsc key xs):srtS key xs=xs:=(srtS_unique h (Stab.refl _)).symm
theorem srtS_congr {xs ys:List Int} (h:Stab key xs ys):srtS key xs=srtS key ys:=srtS_unique (srtS_asc xs) ((srtS_stab xs).trans h)
theorem srtS_mem (xs:List Int) (x:Int):x∈srtS key xs↔x∈xs:=(srtS_stab xs).mem x
theorem asc_app {a b:List Int} (ha:KAsc key a) (hb:KAsc key b) (h:∀ x∈a,∀ y∈b,key x≤key y):KAsc key (a++b):=List.pairwise_append.2 ⟨ha,hb,h⟩
theorem srtS_halves {A1 U V B2:List Int} (hA:KAsc key (A1++U)) (hB:KAsc key (V++B2)) (h1:∀ x∈A1,∀ y∈B2,key x≤key y) (h2:∀ x∈U,∀ y∈V,key y < key x) :
 srtS key ((A1++U)++(V++B2))=srtS key (A1++V)++srtS key (U++B2):=by
 obtain ⟨a1,a2,a3⟩:=List.pairwise_append.1 hA
 obtain ⟨b1,b2,b3⟩:=List.pairwise_append.1 hB
 refine (srtS_unique (asc_app (srtS_asc _) (srtS_asc _) fun x hx y hy=>?_) ?_).symm
 · rw [srtS_mem,List.mem_append] at hx hy
   rcases hx with hx | hx <;> rcases hy with hy | hy
   · exact a3 x hx y hy
   · exact h1 x hx y hy
   · exact Int.le_of_lt (h2 y hy x hx)
   · exact b3 x hx y hy
 · refine ((srtS_stab _).app (srtS_stab _)).trans ?_
   have e1:(A1++V)++(U++B2)=A1++((V++U)++B2):=by simp
   have e2:(A1++U)++(V++B2)=A1++((U++V)++B2):=by simp
   rw [e1,e2]
   exact (Stab.refl A1).app (((Stab.swap h2).symm).app (Stab.refl B2))
theorem srtS_first {x:Int} {B1 B2:List Int} (hB:KAsc key (B1++B2)) (h1:∀ y∈B1,key y < key x) (h2:∀ y∈B2,key x≤key y):srtS key ([x]++(B1++B2))=B1++x :: B2:=by
 obtain ⟨b1,b2,b3⟩:=List.pairwise_append.1 hB
 refine (srtS_unique (asc_app b1 (List.pairwise_cons.2 ⟨h2,b2⟩) fun y hy z hz=>?_) ?_).symm
 · rcases List.mem_cons.1 hz with rfl | hz
   · exact Int.le_of_lt (h1 y hy)
   · exact b3 y hy z hz
 · have e1:B1++x :: B2=(B1++[x])++B2:=by simp
   have e2:[x]++(B1++B2)=([x]++B1)++B2:=by simp
   rw [e1,e2]
   exact (Stab.swap (fun z hz y hy=>by simp at hz;subst hz;exact h1 y hy)).symm.app (Stab.refl B2)
theorem srtS_last {x:Int} {A1 A2:List Int} (hA:KAsc key (A1++A2)) (h1:∀ y∈A1,key y≤key x) (h2:∀ y∈A2,key x < key y):srtS key ((A1++A2)++[x])=A1++x :: A2:=by
 obtain ⟨b1,b2,b3⟩:=List.pairwise_append.1 hA
 refine (srtS_unique (asc_app b1 (List.pairwise_cons.2 ⟨fun y hy=>Int.le_of_lt (h2 y hy),b2⟩) fun y hy z hz=>?_) ?_).symm
 · rcases List.mem_cons.1 hz with rfl | hz
   · exact h1 y hy
   · exact b3 y hy z hz
 · have e1:A1++x :: A2=A1++([x]++A2):=by simp
   have e2:(A1++A2)++[x]=A1++(A2++[x]):=by simp
   rw [e1,e2]
   exact (Stab.refl A1).app (Stab.swap (fun z hz y hy=>by simp at hy;subst hy;exact h2 z hz)).symm
theorem srtS_app (xs ys:List Int):srtS key (srtS key xs++srtS key ys)=srtS key (xs++ys):=srtS_congr ((srtS_stab xs).app (srtS_stab ys))
theorem asc_get {xs:List Int} (h:KAsc key xs) {i j:Nat} {x y:Int} (hx:xs[i]?=some x) (hy:xs[j]?=some y) (hij:i≤j):key x≤key y:=by
 obtain ⟨h1,rfl⟩:=List.getElem?_eq_some_iff.1 hx
 obtain ⟨h2,rfl⟩:=List.getElem?_eq_some_iff.1 hy
 by_cases e:i=j
 · subst e;exact Int.le_refl _
 · exact List.pairwise_iff_getElem.1 h i j h1 h2 (by omega)
theorem mem_take_get {xs:List Int} {k:Nat} {x:Int} (h:x∈xs.take k):∃ i,i < k∧xs[i]?=some x:=by
 obtain ⟨i,hi⟩:=List.getElem?_of_mem h
 rw [List.getElem?_take] at hi
 split at hi
 · exact ⟨i,by assumption,hi⟩
 · cases hi
theorem mem_drop_get {xs:List Int} {k:Nat} {x:Int} (h:x∈xs.drop k):∃ i,k≤i∧xs[i]?=some x:=by
 obtain ⟨i,hi⟩:=List.getElem?_of_mem h
 rw [List.getElem?_drop] at hi
 exact ⟨k+i,by omega,hi⟩
theorem sym_cut {A B:List Int} (hA:KAsc key A) (hB:KAsc key B) (s t:Nat) (hs:s≤A.length) (ht:t≤B.length)
 (h1:s=0∨t=B.length∨∃ x y,A[s - 1]?=some x∧B[t]?=some y∧key x≤key y)
 (h2:s=A.length∨t=0∨∃ x y,A[s]?=some x∧B[t - 1]?=some y∧key y < key x) :
 srtS key (A++B)=srtS key (A.take s++B.take t)++srtS key (A.drop s++B.drop t):=by
 have hA':KAsc key (A.take s++A.drop s):=by rw [List.take_append_drop];exact hA
 have hB':KAsc key (B.take t++B.drop t):=by rw [List.take_append_drop];exact hB
 have:=srtS_halves hA' hB' (fun x hx y hy=>?_) (fun x hx y hy=>?_)
 · rwa [List.take_append_drop,List.take_append_drop] at this
 · obtain ⟨i,hi,hxi⟩:=mem_take_get hx
   obtain ⟨j,hj,hyj⟩:=mem_drop_get hy
   have hjl:=(List.getElem?_eq_some_iff.1 hyj).1
   rcases h1 with h1 | h1 | ⟨p,q,hp,hq,hpq⟩
   · omega
   · omega
   · have e1:=asc_get hA hxi hp (by omega)
     have e2:=asc_get hB hq hyj hj
     omega
 · obtain ⟨i,hi,hxi⟩:=mem_drop_get hx
   obtain ⟨j,hj,hyj⟩:=mem_take_get hy
   have hil:=(List.getElem?_eq_some_iff.1 hxi).1
   rcases h2 with h2 | h2 | ⟨p,q,hp,hq,hpq⟩
   · omega
   · omega
   · have e1:=asc_get hA hp hxi hi
     have e2:=asc_get hB hyj hq (by omega)
     omega
end
def swp (xs:List Int) (i j:Nat):List Int:=(xs.set i (xs.getD j 0)).set j (xs.getD i 0)
theorem swp_length (xs:List Int) (i j:Nat):(swp xs i j).length=xs.length:=by simp [swp]
theorem swp_of {xs:List Int} {i j:Nat} {x y:Int} (hx:xs[i]?=some x) (hy:xs[j]?=some y):swp xs i j=(xs.set i y).set j x:=by
 simp [swp,List.getD_eq_getElem?_getD,hx,hy]
theorem swp_blocks (P Y S:List Int) (x z:Int):swp (P++(x :: (Y++(z :: S)))) P.length (P.length+1+Y.length)=P++(z :: (Y++(x :: S))):=by
 have h1:(P++(x :: (Y++(z :: S))))[P.length]?=some x:=by simp
 have h2:(P++(x :: (Y++(z :: S))))[P.length+1+Y.length]?=some z:=by
  rw [List.getElem?_append_right (by omega),show P.length+1+Y.length - P.length=Y.length+1 by omega,List.getElem?_cons_succ,List.getElem?_append_right (by omega)]
  simp
 rw [swp_of h1 h2,List.set_append_right _ _ (Nat.le_refl _),List.set_append_right _ _ (by omega),show P.length+1+Y.length - P.length=Y.length+1 by omega]
 simp
def swapN (xs:List Int) (a b:Nat):Nat→List Int
 | 0=>xs
 | c+1=>swapN (swp xs a b) (a+1) (b+1) c
theorem swapN_blocks:∀ (X Z P Y S:List Int),X.length=Z.length→swapN (P++(X++(Y++(Z++S)))) P.length (P.length+X.length+Y.length) X.length=P++(Z++(Y++(X++S)))
 | [],[],P,Y,S,_=>by simp [swapN]
 | [],z :: Z,P,Y,S,h=>by simp at h
 | x :: X,[],P,Y,S,h=>by simp at h
 | x :: X,z :: Z,P,Y,S,h=>by
   have ih:=swapN_blocks X Z (P++[z]) (Y++[x]) S (by simpa using h)
   have e:=swp_blocks P (X++Y) (Z++S) x z
   have e1:P++(x :: X++(Y++(z :: Z++S)))=P++(x :: ((X++Y)++(z :: (Z++S)))):=by simp
   have e2:P.length+(x :: X).length+Y.length=P.length+1+(X++Y).length:=by simp;omega
   rw [e1,e2,List.length_cons,swapN,e]
   have e3:P++(z :: ((X++Y)++(x :: (Z++S))))=P++[z]++(X++(Y++[x]++(Z++S))):=by simp
   have e4:P.length+1+(X++Y).length+1=(P++[z]).length+X.length+(Y++[x]).length:=by simp;omega
   have e5:P.length+1=(P++[z]).length:=by simp
   rw [e3,e4,e5,ih]
   simp
def upN (xs:List Int) (k:Nat):Nat→List Int
 | 0=>xs
 | c+1=>upN (swp xs k (k+1)) (k+1) c
theorem upN_blocks:∀ (B P R:List Int) (x:Int),upN (P++(x :: (B++R))) P.length B.length=P++(B++(x :: R))
 | [],P,R,x=>by simp [upN]
 | y :: B,P,R,x=>by
   have ih:=upN_blocks B (P++[y]) R x
   have e:=swp_blocks P [] (B++R) x y
   simp only [List.nil_append,List.length_nil,Nat.add_zero] at e
   rw [List.length_cons,upN,List.cons_append,e]
   have e3:P++(y :: (x :: (B++R)))=P++[y]++(x :: (B++R)):=by simp
   have e5:P.length+1=(P++[y]).length:=by simp
   rw [e3,e5,ih]
   simp
def downN (xs:List Int) (k:Nat):Nat→List Int
 | 0=>xs
 | c+1=>downN (swp xs k (k - 1)) (k - 1) c
theorem swp_comm {xs:List Int} {i j:Nat} (hi:i < xs.length) (hj:j < xs.length) (h:i≠j):swp xs i j=swp xs j i:=by
 have h1:=List.getElem?_eq_getElem hi
 have h2:=List.getElem?_eq_getElem hj
 rw [swp_of h1 h2,swp_of h2 h1,List.set_comm _ _ (by omega)]
theorem downN_blocks:∀ (n:Nat) (A P R:List Int) (x:Int),A.length=n→downN (P++(A++(x :: R))) (P.length+n) n=P++(x :: (A++R))
 | 0,A,P,R,x,h=>by
   have:=List.eq_nil_of_length_eq_zero h
   subst this
   simp [downN]
 | n+1,A,P,R,x,h=>by
   obtain ⟨A',y,rfl⟩:∃ A' y,A=A'++[y]:=⟨A.dropLast,A.getLast (by intro e;simp [e] at h),(List.dropLast_concat_getLast _).symm⟩
   have hl:A'.length=n:=by simpa using h
   have ih:=downN_blocks n A' P (y :: R) x hl
   have e:=swp_blocks (P++A') [] R y x
   simp only [List.nil_append,List.length_nil,Nat.add_zero,List.length_append,hl] at e
   have e1:P++(A'++[y]++(x :: R))=P++A'++(y :: (x :: R)):=by simp
   rw [downN,e1,show P.length+(n+1) - 1=P.length+n by omega,show P.length+(n+1)=P.length+n+1 by omega,swp_comm (by simp;omega) (by simp;omega) (by omega),e]
   have e2:P++A'++(x :: (y :: R))=P++(A'++(x :: (y :: R))):=by simp
   rw [e2,ih]
   simp
theorem set_pre (P ys:List Int) (c:Nat) (y:Int):(P++ys).set (P.length+c) y=P++ys.set c y:=by
 rw [List.set_append_right _ _ (by omega)]
 simp
theorem get_pre (P ys:List Int) (c:Nat):(P++ys)[P.length+c]?=ys[c]?:=by
 rw [List.getElem?_append_right (by omega)]
 simp
theorem get_A {P A B S:List Int} {c:Nat} (h1:P.length≤c) (h2:c < P.length+A.length):(P++(A++(B++S)))[c]?=A[c - P.length]?:=by
 rw [List.getElem?_append_right h1,List.getElem?_append_left (by omega)]
theorem get_B {P A B S:List Int} {c:Nat} (h1:P.length+A.length≤c) (h2:c < P.length+A.length+B.length):(P++(A++(B++S)))[c]?=B[c - (P.length+A.length)]?:=by
 rw [List.getElem?_append_right (by omega),List.getElem?_append_right (by omega),List.getElem?_append_left (by omega)]
 congr 1
 omega
theorem first_cut {key:Int→Int} {x:Int} {B:List Int} (hB:KAsc key B) (t:Nat) (ht:t≤B.length)
 (h1:t=0∨∃ y,B[t - 1]?=some y∧key y < key x) (h2:t=B.length∨∃ y,B[t]?=some y∧key x≤key y):srtS key ([x]++B)=B.take t++x :: B.drop t:=by
 have:=srtS_first (key:=key) (x:=x) (B1:=B.take t) (B2:=B.drop t) (by rw [List.take_append_drop];exact hB) (fun y hy=>?_) (fun y hy=>?_)
 · rwa [List.take_append_drop] at this
 · obtain ⟨i,hi,hyi⟩:=mem_take_get hy
   rcases h1 with h1 | ⟨z,hz,hk⟩
   · omega
   · have:=asc_get hB hyi hz (by omega);omega
 · obtain ⟨i,hi,hyi⟩:=mem_drop_get hy
   have:=(List.getElem?_eq_some_iff.1 hyi).1
   rcases h2 with h2 | ⟨z,hz,hk⟩
   · omega
   · have:=asc_get hB hz hyi hi;omega
theorem last_cut {key:Int→Int} {x:Int} {A:List Int} (hA:KAsc key A) (t:Nat) (ht:t≤A.length)
 (h1:t=0∨∃ y,A[t - 1]?=some y∧key y≤key x) (h2:t=A.length∨∃ y,A[t]?=some y∧key x < key y):srtS key (A++[x])=A.take t++x :: A.drop t:=by
 have:=srtS_last (key:=key) (x:=x) (A1:=A.take t) (A2:=A.drop t) (by rw [List.take_append_drop];exact hA) (fun y hy=>?_) (fun y hy=>?_)
 · rwa [List.take_append_drop] at this
 · obtain ⟨i,hi,hyi⟩:=mem_take_get hy
   rcases h1 with h1 | ⟨z,hz,hk⟩
   · omega
   · have:=asc_get hA hyi hz (by omega);omega
 · obtain ⟨i,hi,hyi⟩:=mem_drop_get hy
   have:=(List.getElem?_eq_some_iff.1 hyi).1
   rcases h2 with h2 | ⟨z,hz,hk⟩
   · omega
   · have:=asc_get hA hz hyi hi;omega
def ltK (T:List Int) (e:Int):Int:=T.getD e.toNat 0
def setAll (d q:List Int) (at_:Int):List Int:=q.foldl (fun d x=>d.set x.toNat (at_ - x)) d
theorem setAll_length (q:List Int) (at_:Int):∀ d:List Int,(setAll d q at_).length=d.length:=by
 induction q with
 | nil=>intro d;rfl
 | cons x t ih=>intro d;rw [setAll,List.foldl_cons];exact (ih _).trans (by simp)
theorem setAll_snoc (d q:List Int) (x at_:Int):setAll d (q++[x]) at_=(setAll d q at_).set x.toNat (at_ - x):=by simp [setAll]
theorem setAll_nil (d:List Int) (at_:Int):setAll d [] at_=d:=rfl
structure LS where
 w:List Int
 out:List Int
 late:List Int
 del:List Int
 marks:List Int
 most:Int
 mark:Int
def due (T:List Int) (mk:Int) (x:Int):Bool:=decide (ltK T x≤mk)
def lq (T:List Int) (L:LS) (i:Nat):List Int:=if T.getD i 0 < L.mark then L.w else srtS (ltK T) (L.w++[(i:Int)])
def lmk (T:List Int) (s:Int) (L:LS) (i:Nat):Int:=max L.mark (T.getD i 0 - s)
def lstep (T:List Int) (s:Int) (L:LS) (i:Nat):LS where
 w:=(lq T L i).filter fun x=>!due T (lmk T s L i) x
 out:=L.out++(lq T L i).filter (due T (lmk T s L i))
 late:=if T.getD i 0 < L.mark then L.late++[(i:Int)] else L.late
 del:=setAll (if T.getD i 0 < L.mark then L.del.set i (-1) else L.del) ((lq T L i).filter (due T (lmk T s L i))) (i:Int)
 marks:=L.marks++[lmk T s L i]
 most:=max L.most (((lq T L i).filter fun x=>!due T (lmk T s L i) x).length:Int)
 mark:=lmk T s L i
def lS0 (n:Nat):LS:=⟨[],[],[],List.replicate n 0,[],0,-1001⟩
def lrun (T:List Int) (s:Int):Nat→LS
 | 0=>lS0 T.length
 | k+1=>lstep T s (lrun T s k) k
structure LInv (T:List Int) (s:Int) (k:Nat) (L:LS):Prop where
 asc:KAsc (ltK T) L.w
 wlt:∀ x∈L.w,∃ j:Nat,j < k∧x=j
 olt:∀ x∈L.out,∃ j:Nat,j < k∧x=j
 llt:∀ x∈L.late,∃ j:Nat,j < k∧x=j
 len:L.w.length+L.out.length+L.late.length=k
 del:L.del.length=T.length
 marks:L.marks.length=k
 most0:0≤L.most∧L.most≤(k:Int)
 mkb : -1001≤L.mark∧L.mark≤1000
theorem asc_filter {key:Int→Int} {xs:List Int} (h:KAsc key xs) (p:Int→Bool):KAsc key (xs.filter p):=h.sublist List.filter_sublist
theorem filter_len2 (p:Int→Bool) (xs:List Int):(xs.filter fun x=>!p x).length+(xs.filter p).length=xs.length:=by
 induction xs with
 | nil=>rfl
 | cons x t ih =>
   cases h:p x
   · simp [h];omega
   · simp [h];omega
theorem lq_facts {T:List Int} {s:Int} {k:Nat} {L:LS} (H:LInv T s k L):KAsc (ltK T) (lq T L k)∧(∀ x∈lq T L k,∃ j:Nat,j < k+1∧x=j)∧(lq T L k).length=L.w.length+(if T.getD k 0 < L.mark then 0 else 1):=by
 unfold lq
 split
 · exact ⟨H.asc,fun x hx=>by obtain ⟨j,h1,h2⟩:=H.wlt x hx;exact ⟨j,by omega,h2⟩,rfl⟩
 · refine ⟨srtS_asc _,fun x hx=>?_,by rw [srtS_length];simp⟩
   rw [srtS_mem,List.mem_append,List.mem_singleton] at hx
   rcases hx with hx | rfl
   · obtain ⟨j,h1,h2⟩:=H.wlt x hx;exact ⟨j,by omega,h2⟩
   · exact ⟨k,by omega,rfl⟩
theorem LInv.start (T:List Int) (s:Int):LInv T s 0 (lS0 T.length) :=
 ⟨List.Pairwise.nil,fun x h=>by simp [lS0] at h,fun x h=>by simp [lS0] at h,fun x h=>by simp [lS0] at h,by simp [lS0],by simp [lS0],by simp [lS0],by simp [lS0],by simp [lS0]⟩
theorem LInv.step {T:List Int} {s:Int} (hT:∀ t∈T,0≤t∧t≤1000) (hs:0≤s∧s≤1000) {k:Nat} {L:LS} (hk:k < T.length) (H:LInv T s k L):LInv T s (k+1) (lstep T s L k):=by
 obtain ⟨h1,h2,h3⟩:=lq_facts H
 have hl:=filter_len2 (due T (lmk T s L k)) (lq T L k)
 have ht:0≤T.getD k 0∧T.getD k 0≤1000:=by
  rw [List.getD_eq_getElem?_getD,List.getElem?_eq_getElem hk]
  exact hT _ (List.getElem_mem _)
 have hm:=H.mkb
 have hmk : -1001≤lmk T s L k∧lmk T s L k≤1000:=by unfold lmk;omega
 have hlen:=H.len
 have hm0:=H.most0
 refine ⟨asc_filter h1 _,fun x hx=>h2 x (List.mem_filter.1 hx).1,fun x hx=>?_,fun x hx=>?_,?_,?_,?_,?_,hmk⟩
 · rcases List.mem_append.1 hx with hx | hx
   · obtain ⟨j,a,b⟩:=H.olt x hx;exact ⟨j,by omega,b⟩
   · exact h2 x (List.mem_filter.1 hx).1
 · by_cases hlt:T.getD k 0 < L.mark
   · rw [show (lstep T s L k).late=L.late++[(k:Int)] from if_pos hlt] at hx
     rcases List.mem_append.1 hx with hx | hx
     · obtain ⟨j,a,b⟩:=H.llt x hx;exact ⟨j,by omega,b⟩
     · rw [List.mem_singleton] at hx;exact ⟨k,by omega,hx⟩
   · rw [show (lstep T s L k).late=L.late from if_neg hlt] at hx
     obtain ⟨j,a,b⟩:=H.llt x hx;exact ⟨j,by omega,b⟩
 · simp only [lstep,List.length_append]
   by_cases hlt:T.getD k 0 < L.mark
   · rw [if_pos hlt] at h3 ⊢
     simp only [List.length_append,List.length_singleton]
     omega
   · rw [if_neg hlt] at h3 ⊢
     omega
 · simp only [lstep]
   rw [setAll_length]
   split
   · rw [List.length_set];exact H.del
   · exact H.del
 · simp [lstep,H.marks]
 · simp only [lstep]
   have : ((lq T L k).filter fun x=>!due T (lmk T s L k) x).length≤k+1:=by
    split at h3 <;> omega
   omega
theorem lrun_inv {T:List Int} {s:Int} (hT:∀ t∈T,0≤t∧t≤1000) (hs:0≤s∧s≤1000):∀ k,k≤T.length→LInv T s k (lrun T s k)
 | 0,_=>LInv.start T s
 | k+1,h=>(lrun_inv hT hs k (by omega)).step hT hs (by omega)
def lateOut (T:List Int) (s:Int):List Int:=(lrun T s T.length).out++(lrun T s T.length).w
def lateLate (T:List Int) (s:Int):List Int:=(lrun T s T.length).late
def lateDel (T:List Int) (s:Int):List Int:=setAll (lrun T s T.length).del (lrun T s T.length).w ((T.length:Int) - 1)
def lateMost (T:List Int) (s:Int):Int:=(lrun T s T.length).most
def lateMarks (T:List Int) (s:Int):List Int:=(lrun T s T.length).marks
def timesOk (T:List Int):Bool:=decide (T.length≤30) && T.all fun t=>decide (0≤t) && decide (t≤1000)
theorem timesOk_iff {T:List Int} : timesOk T=true↔T.length≤30∧∀ t∈T,0≤t∧t≤1000:=by
 simp only [timesOk,Bool.and_eq_true,decide_eq_true_eq,List.all_eq_true]
def lateOkB (T:List Int) (s:Int):Bool:=timesOk T && (decide (0≤s) && decide (s≤1000))
theorem lateOkB_iff {T:List Int} {s:Int} : lateOkB T s=true↔(T.length≤30∧∀ t∈T,0≤t∧t≤1000)∧0≤s∧s≤1000:=by
 simp only [lateOkB,Bool.and_eq_true,timesOk_iff,decide_eq_true_eq]
end Go.Proofs.YtggblfnajeikjaaGreatDoor
