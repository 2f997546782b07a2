/- Joined texts of the proof: PlainParse, ParseI. -/
import Derived.Deep.DeepCutAuto
import Derived.Lib.AtoiAllCases
import Derived.Lib.IndexBytes
import Derived.Test.YtggblfnajeikjaaGreatDoorJ23
namespace Go.Proofs.YtggblfnajeikjaaGreatDoor
open Go.RowKit
set_option linter.unusedVariables false
set_option linter.unusedSimpArgs false
set_option maxRecDepth 100000
set_option maxHeartbeats 16000000
def isDg (c:UInt8):Bool:=decide (48≤c.toNat) && decide (c.toNat≤57)
theorem isDg_iff {c:UInt8} : isDg c=true↔48≤c.toNat∧c.toNat≤57:=by simp [isDg]
def dv (acc:Nat) (l:List UInt8):Nat:=l.foldl (fun a c=>a * 10+(c.toNat - 48)) acc
theorem dv_nil (acc:Nat):dv acc []=acc:=rfl
theorem dv_cons (acc:Nat) (c:UInt8) (r:List UInt8):dv acc (c :: r)=dv (acc * 10+(c.toNat - 48)) r:=by
 rw [dv,dv,List.foldl_cons]
theorem dv_ge (l:List UInt8):∀ acc:Nat,acc≤dv acc l:=by
 induction l with
 | nil=>intro acc;exact Nat.le_refl _
 | cons c r ih =>
   intro acc
   have h1:=ih (acc * 10+(c.toNat - 48))
   have h2:=dv_cons acc c r
   generalize dv (acc * 10+(c.toNat - 48)) r=x at h1 h2
   generalize c.toNat - 48=d at h1
   omega
theorem dv_append (l m:List UInt8) (acc:Nat):dv acc (l++m)=dv (dv acc l) m:=List.foldl_append
theorem dv_snoc (l:List UInt8) (acc:Nat) (c:UInt8):dv acc (l++[c])=dv acc l * 10+(c.toNat - 48):=by
 rw [dv_append,dv_cons,dv_nil]
theorem dec_digit:∀ (u:Nat) (c:UInt8),c∈Lib.decDigits u→isDg c=true:=by
 intro u
 induction u using Nat.strongRecOn with
 | ind u ih =>
   intro c hc
   by_cases h:9 < u
   · rw [decDigits_big h,List.mem_append] at hc
     rcases hc with hc | hc
     · exact ih (u / 10) (by omega) c hc
     · rw [List.mem_singleton] at hc
       subst hc
       rw [isDg_iff,UInt8.toNat_ofNat']
       omega
   · rw [decDigits_small h,List.mem_singleton] at hc
     subst hc
     rw [isDg_iff,UInt8.toNat_ofNat']
     omega
theorem dv_dec (u:Nat):dv 0 (Lib.decDigits u)=u:=by
 induction u using Nat.strongRecOn with
 | ind u ih =>
   by_cases h:9 < u
   · rw [decDigits_big h,dv_snoc,ih (u / 10) (by omega),UInt8.toNat_ofNat']
     omega
   · rw [decDigits_small h]
     show 0 * 10+((UInt8.ofNat (48+u)).toNat - 48)=u
     rw [UInt8.toNat_ofNat']
     omega
theorem parseUint_dv (l:List UInt8):∀ acc:Nat,(∀ c∈l,isDg c=true)→dv acc l < 18446744073709551616→Lib.parseUint10 acc l=.ok (dv acc l):=by
 induction l with
 | nil=>intro acc _ _;rfl
 | cons c r ih =>
   intro acc hd hv
   have hc:=isDg_iff.1 (hd c (.head _))
   rw [dv_cons] at hv ⊢
   have hg:=dv_ge r (acc * 10+(c.toNat - 48))
   have h1:=ih (acc * 10+(c.toNat - 48)) (fun d h=>hd d (.tail _ h)) hv
   rw [Lib.parseUint10,if_pos hc,if_neg (by omega),if_neg (by omega)]
   exact h1
def parseI (l:List UInt8):Option Int:=match Lib.atoiAll l with | .ok n=>if Lib.itoa n=l then some n else none | _=>none
theorem atoi_itoa {n:Int} (h:I64 n):Lib.atoiAll (Lib.itoa n)=.ok n:=by
 unfold I64 at h
 have hv:=dv_dec n.natAbs
 have hm:Lib.parseMag (Lib.decDigits n.natAbs)=.ok n.natAbs:=by
  rw [Lib.parseMag,if_neg (fun e=>by have:=decDigits_pos n.natAbs;rw [e] at this;simp at this),parseUint_dv _ _ (dec_digit _) (by omega),hv]
 by_cases h0:n < 0
 · have e:Lib.itoa n=45 :: Lib.decDigits n.natAbs:=by rw [Lib.itoa,if_pos h0]
   rw [e,Lib.atoiAll_minus,hm]
   simp only [Lib.signed]
   rw [if_neg (by omega)]
   congr 1
   omega
 · have e:Lib.itoa n=Lib.decDigits n.natAbs:=by rw [Lib.itoa,if_neg h0];congr 1;omega
   have hp:=decDigits_pos n.natAbs
   rw [e]
   cases hd:Lib.decDigits n.natAbs with
   | nil=>rw [hd] at hp;simp at hp
   | cons c r =>
     have:=isDg_iff.1 (dec_digit n.natAbs c (by rw [hd];exact .head _))
     rw [Lib.atoiAll_plain c r (by omega) (by omega),←hd,hm]
     simp only [Lib.signless]
     rw [if_neg (by omega)]
     congr 1
     omega
theorem parseI_iff {l:List UInt8} {n:Int} : parseI l=some n↔I64 n∧Lib.itoa n=l:=by
 constructor
 · intro h
   unfold parseI at h
   split at h
   · rename_i m hm
     split at h
     · rename_i e
       obtain rfl:m=n:=Option.some.inj h
       exact ⟨Lib.atoiAll_bounds hm,e⟩
     · cases h
   · cases h
 · rintro ⟨h,rfl⟩
   rw [parseI,atoi_itoa h]
   simp
theorem bytes_len (s:ByteArray):s.data.toList.length=s.size:=by simp
def RetPI (o:Option Int) (w:World) (e:Ending) (w':World):Prop:=e=.returned (.tuple #[.int .i64 (o.getD 0),.bool o.isSome])∧Below w.heap.size w w'
theorem retPI_none {w w':World} {o:Option Int} (h:o=none) (hb:Below w.heap.size w w'):RetPI o w (.returned (.tuple #[.int .i64 0,.bool false])) w':=by subst h;exact ⟨rfl,hb⟩
theorem retPI_some {w w':World} {o:Option Int} {n:Int} (h:o=some n) (hb:Below w.heap.size w w'):RetPI o w (.returned (.tuple #[.int .i64 n,.bool true])) w':=by subst h;exact ⟨rfl,hb⟩
end Go.Proofs.YtggblfnajeikjaaGreatDoor
